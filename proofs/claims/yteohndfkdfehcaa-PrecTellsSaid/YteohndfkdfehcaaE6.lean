/-
  What is proved here: parts of the proof that QT states last: rules for walks through code, and of this program's functions what they answer. No condition of their own.
-/
import Derived.Test.YteohndfkdfehcaaRows
import Derived.Test.YteohndfkdfehcaaE5
namespace Go.Proofs
open Go Go.Own
set_option maxRecDepth 100000
set_option linter.unusedVariables false
theorem con15  (r : Bool) (h : pf15  = some r) : Con Try.prog 15 [] [] (BB r) := by
  unfold pf15 at h
  refine Con.go (N := ⟨56, []⟩) Try.func15 rfl rfl rfl rfl (W.fin ?_)
  refine W.st [] ?_
  refine W.sq' ?_
  refine W.rx [] (RunL.v (O.as (.k rfl)) rfl rfl .none <| RunL.fin .nil) ?_
  refine Px.sq ?_
  refine W.sq' ?_
  obtain ⟨x1, hx1, h⟩ := bnd h
  refine W.rx [(1, _), (3, _)] (RunL.vi (x := iR eI [0, 0]) (O.bs (ys := [I64 0, I64 0]) eI [0, 0] sl27 rfl rfl rfl rfl rfl rfl zt3 rfl rfl) rfl rfl .none <| RunL.c (PC.go (.cc (.imm rfl) (.cc (.k rfl) (.cc (.k rfl) .nil))) (con23 [0, 0] 0 1 _ hx1) call23 rfl) rfl rfl .none <| RunL.v (O.mv (.tup rfl rfl)) rfl rfl .none <| RunL.v (O.ex (y := .agg [iR eTok x1.1.Toks, iR eNon x1.1.Nons, iR eProd_0 x1.1.Prods, SS x1.1.Pro, SS x1.1.Tail]) rfl rfl rfl) rfl rfl .none <| RunL.v (O.ex (y := I64 x1.2.1) rfl rfl rfl) rfl rfl .none <| RunL.v (O.ex (y := BB x1.2.2) rfl rfl rfl) rfl rfl .none <| RunL.v (O.al (cs := [.nils, .nils, .nils, SS ({ data := #[] }), SS ({ data := #[] })]) ze38 rfl rfl) rfl rfl .none <| RunL.sO (G2 := [(1, .obj [iR eTok x1.1.Toks, iR eNon x1.1.Nons, iR eProd_0 x1.1.Prods, SS x1.1.Pro, SS x1.1.Tail]), (12, I64 x1.2.1), (13, BB x1.2.2)]) (cs2 := [iR eTok x1.1.Toks, iR eNon x1.1.Nons, iR eProd_0 x1.1.Prods, SS x1.1.Pro, SS x1.1.Tail]) rfl (.obj rfl) (.aggF rfl rfl) rfl sz38 rfl rfl rfl rfl (.b rfl (.n rfl rfl (.n rfl rfl .nil))) <| RunL.v (O.as (.lit rfl)) rfl rfl .none <| RunL.v (O.as (.lit rfl)) rfl rfl .none <| RunL.fin (.n rfl (.n rfl .nil))) ?_
  refine Px.sq ?_
  refine W.sq' ?_
  obtain ⟨x2, hx2, h⟩ := bnd h
  refine W.rx [(1, _), (3, _), (4, _), (5, _)] (RunL.v (O.ldON (cs' := [iR eTok x1.1.Toks, iR eNon x1.1.Nons, iR eProd_0 x1.1.Prods, SS x1.1.Pro, SS x1.1.Tail]) rfl (.obj rfl) at38 rfl rfl) rfl rfl .none <| RunL.c (PC.go (.cc (.aggF rfl rfl) (.cc (.k rfl) .nil)) (con19 x1.1 2 _ hx2) call19 rfl) rfl rfl .none <| RunL.v (O.mv (.tupF rfl rfl)) rfl rfl .none <| RunL.v (O.ex (y := I64 x2.1) rfl rfl rfl) rfl rfl .none <| RunL.v (O.ex (y := I64 x2.2) rfl rfl rfl) rfl rfl .none <| RunL.v (O.as (.lit rfl)) rfl rfl .none <| RunL.v (O.as (.lit rfl)) rfl rfl .none <| RunL.fin (.n rfl (.n rfl (.n rfl (.n rfl .nil))))) ?_
  refine Px.sq ?_
  refine W.sq' ?_
  obtain ⟨x3, hx3, h⟩ := bnd h
  refine W.rx [(1, _), (3, _), (4, _), (5, _), (6, _), (7, _)] (RunL.v (O.ldON (cs' := [iR eTok x1.1.Toks, iR eNon x1.1.Nons, iR eProd_0 x1.1.Prods, SS x1.1.Pro, SS x1.1.Tail]) rfl (.obj rfl) at38 rfl rfl) rfl rfl .none <| RunL.c (PC.go (.cc (.aggF rfl rfl) (.cc (.k rfl) .nil)) (con19 x1.1 9 _ hx3) call19 rfl) rfl rfl .none <| RunL.v (O.mv (.tupF rfl rfl)) rfl rfl .none <| RunL.v (O.ex (y := I64 x3.1) rfl rfl rfl) rfl rfl .none <| RunL.v (O.ex (y := I64 x3.2) rfl rfl rfl) rfl rfl .none <| RunL.v (O.as (.lit rfl)) rfl rfl .none <| RunL.v (O.as (.lit rfl)) rfl rfl .none <| RunL.fin (.n rfl (.n rfl (.n rfl (.n rfl (.n rfl (.n rfl .nil))))))) ?_
  refine Px.sq ?_
  refine W.sq' ?_
  obtain ⟨c14, hj, h⟩ := bnd h
  refine W.rx [(0, BB c14)] ?_ ?_
  · refine RunL.v (O.mv (.lit rfl)) rfl rfl .none <| RunL.v (O.mv (.lit rfl)) rfl rfl .none ?_
    rcases cnd hj with ⟨hb4, hj⟩ | ⟨hb4, hj⟩
    · refine RunL.v (O.mv (.lit rfl)) rfl rfl (.yb rfl rfl hb4) <| RunL.v (O.eql (.lit rfl) (.k rfl)) rfl rfl (.yb rfl rfl hb4) <| RunL.v (O.pkT (.lit rfl) hb4 (.lit rfl)) rfl rfl .none <| RunL.v (O.mv (.lit rfl)) rfl rfl .none ?_
      rcases cnd hj with ⟨hb5, hj⟩ | ⟨hb5, hj⟩
      · refine RunL.v (O.mv (.lit rfl)) rfl rfl (.yb rfl rfl hb5) <| RunL.v (O.eql (.lit rfl) (.k rfl)) rfl rfl (.yb rfl rfl hb5) <| RunL.v (O.pkT (.lit rfl) hb5 (.lit rfl)) rfl rfl .none <| RunL.v (O.mv (.lit rfl)) rfl rfl .none ?_
        rcases cnd hj with ⟨hb6, hj⟩ | ⟨hb6, hj⟩
        · refine RunL.v (O.mv (.lit rfl)) rfl rfl (.yb rfl rfl hb6) <| RunL.v (O.eql (.lit rfl) (.k rfl)) rfl rfl (.yb rfl rfl hb6) <| RunL.v (O.pkT (.lit rfl) hb6 (.lit rfl)) rfl rfl .none <| RunL.v (O.mv (.lit rfl)) rfl rfl .none ?_
          rcases cnd hj with ⟨hb7, hj⟩ | ⟨hb7, hj⟩
          · refine RunL.v (O.mv (.lit rfl)) rfl rfl (.yb rfl rfl hb7) <| RunL.v (O.eql (.lit rfl) (.k rfl)) rfl rfl (.yb rfl rfl hb7) <| RunL.v (O.pkT (.lit rfl) hb7 (.lit rfl)) rfl rfl .none <| RunL.v (O.mv (.lit rfl)) rfl rfl .none ?_
            rcases cnd hj with ⟨hb8, hj⟩ | ⟨hb8, hj⟩
            · refine RunL.v (O.ldON (cs' := [iR eTok x1.1.Toks, iR eNon x1.1.Nons, iR eProd_0 x1.1.Prods, SS x1.1.Pro, SS x1.1.Tail]) rfl (.obj rfl) at38 rfl rfl) rfl rfl (.yb rfl rfl hb8) ?_
              obtain ⟨x9, hx9, hj⟩ := bnd hj
              refine RunL.c (PC.go (.cc (.aggF rfl rfl) (.cc (.k rfl) (.cc (.k rfl) .nil))) (con21 x1.1 2 3 _ hx9) call21 rfl) rfl rfl (.yb rfl rfl hb8) <| RunL.v (O.eql (.lit rfl) (.k rfl)) rfl rfl (.yb rfl rfl hb8) <| RunL.v (O.pkT (.lit rfl) hb8 (.lit rfl)) rfl rfl .none <| RunL.v (O.mv (.lit rfl)) rfl rfl .none ?_
              rcases cnd hj with ⟨hb10, hj⟩ | ⟨hb10, hj⟩
              · refine RunL.v (O.ldON (cs' := [iR eTok x1.1.Toks, iR eNon x1.1.Nons, iR eProd_0 x1.1.Prods, SS x1.1.Pro, SS x1.1.Tail]) rfl (.obj rfl) at38 rfl rfl) rfl rfl (.yb rfl rfl hb10) ?_
                obtain ⟨x11, hx11, hj⟩ := bnd hj
                refine RunL.c (PC.go (.cc (.aggF rfl rfl) (.cc (.k rfl) (.cc (.k rfl) .nil))) (con21 x1.1 1 4 _ hx11) call21 rfl) rfl rfl (.yb rfl rfl hb10) <| RunL.v (O.eql (.lit rfl) (.k rfl)) rfl rfl (.yb rfl rfl hb10) <| RunL.v (O.pkT (.lit rfl) hb10 (.lit rfl)) rfl rfl .none <| RunL.v (O.mv (.lit rfl)) rfl rfl .none ?_
                rcases cnd hj with ⟨hb12, hj⟩ | ⟨hb12, hj⟩
                · refine RunL.v (O.ldON (cs' := [iR eTok x1.1.Toks, iR eNon x1.1.Nons, iR eProd_0 x1.1.Prods, SS x1.1.Pro, SS x1.1.Tail]) rfl (.obj rfl) at38 rfl rfl) rfl rfl (.yb rfl rfl hb12) ?_
                  obtain ⟨x13, hx13, hj⟩ := bnd hj
                  obtain rfl := sm hj
                  exact RunL.c (PC.go (.cc (.aggF rfl rfl) (.cc (.k rfl) (.cc (.k rfl) .nil))) (con21 x1.1 3 3 _ hx13) call21 rfl) rfl rfl (.yb rfl rfl hb12) <| RunL.v (O.eql (.lit rfl) (.k rfl)) rfl rfl (.yb rfl rfl hb12) <| RunL.v (O.pkT (.lit rfl) hb12 (.lit rfl)) rfl rfl .none <| RunL.v (O.as (.lit rfl)) rfl rfl .none <| RunL.fin (.n rfl .nil)
                · obtain rfl := sm hj
                  exact RunL.ps rfl rfl hb12 rfl rfl <| RunL.ps rfl rfl hb12 rfl rfl <| RunL.ps rfl rfl hb12 rfl rfl <| RunL.v (O.pkF (.lit rfl) hb12 (.k rfl)) rfl rfl .none <| RunL.v (O.as (.lit rfl)) rfl rfl .none <| RunL.fin (.n rfl .nil)
              · obtain rfl := sm hj
                exact RunL.ps rfl rfl hb10 rfl rfl <| RunL.ps rfl rfl hb10 rfl rfl <| RunL.ps rfl rfl hb10 rfl rfl <| RunL.v (O.pkF (.lit rfl) hb10 (.k rfl)) rfl rfl .none <| RunL.v (O.mv (.lit rfl)) rfl rfl .none <| RunL.ps rfl rfl rfl rfl rfl <| RunL.ps rfl rfl rfl rfl rfl <| RunL.ps rfl rfl rfl rfl rfl <| RunL.v (O.pkF (.lit rfl) rfl (.k rfl)) rfl rfl .none <| RunL.v (O.as (.lit rfl)) rfl rfl .none <| RunL.fin (.n rfl .nil)
            · obtain rfl := sm hj
              exact RunL.ps rfl rfl hb8 rfl rfl <| RunL.ps rfl rfl hb8 rfl rfl <| RunL.ps rfl rfl hb8 rfl rfl <| RunL.v (O.pkF (.lit rfl) hb8 (.k rfl)) rfl rfl .none <| RunL.v (O.mv (.lit rfl)) rfl rfl .none <| RunL.ps rfl rfl rfl rfl rfl <| RunL.ps rfl rfl rfl rfl rfl <| RunL.ps rfl rfl rfl rfl rfl <| RunL.v (O.pkF (.lit rfl) rfl (.k rfl)) rfl rfl .none <| RunL.v (O.mv (.lit rfl)) rfl rfl .none <| RunL.ps rfl rfl rfl rfl rfl <| RunL.ps rfl rfl rfl rfl rfl <| RunL.ps rfl rfl rfl rfl rfl <| RunL.v (O.pkF (.lit rfl) rfl (.k rfl)) rfl rfl .none <| RunL.v (O.as (.lit rfl)) rfl rfl .none <| RunL.fin (.n rfl .nil)
          · obtain rfl := sm hj
            exact RunL.ps rfl rfl hb7 rfl rfl <| RunL.ps rfl rfl hb7 rfl rfl <| RunL.v (O.pkF (.lit rfl) hb7 (.k rfl)) rfl rfl .none <| RunL.v (O.mv (.lit rfl)) rfl rfl .none <| RunL.ps rfl rfl rfl rfl rfl <| RunL.ps rfl rfl rfl rfl rfl <| RunL.ps rfl rfl rfl rfl rfl <| RunL.v (O.pkF (.lit rfl) rfl (.k rfl)) rfl rfl .none <| RunL.v (O.mv (.lit rfl)) rfl rfl .none <| RunL.ps rfl rfl rfl rfl rfl <| RunL.ps rfl rfl rfl rfl rfl <| RunL.ps rfl rfl rfl rfl rfl <| RunL.v (O.pkF (.lit rfl) rfl (.k rfl)) rfl rfl .none <| RunL.v (O.mv (.lit rfl)) rfl rfl .none <| RunL.ps rfl rfl rfl rfl rfl <| RunL.ps rfl rfl rfl rfl rfl <| RunL.ps rfl rfl rfl rfl rfl <| RunL.v (O.pkF (.lit rfl) rfl (.k rfl)) rfl rfl .none <| RunL.v (O.as (.lit rfl)) rfl rfl .none <| RunL.fin (.n rfl .nil)
        · obtain rfl := sm hj
          exact RunL.ps rfl rfl hb6 rfl rfl <| RunL.ps rfl rfl hb6 rfl rfl <| RunL.v (O.pkF (.lit rfl) hb6 (.k rfl)) rfl rfl .none <| RunL.v (O.mv (.lit rfl)) rfl rfl .none <| RunL.ps rfl rfl rfl rfl rfl <| RunL.ps rfl rfl rfl rfl rfl <| RunL.v (O.pkF (.lit rfl) rfl (.k rfl)) rfl rfl .none <| RunL.v (O.mv (.lit rfl)) rfl rfl .none <| RunL.ps rfl rfl rfl rfl rfl <| RunL.ps rfl rfl rfl rfl rfl <| RunL.ps rfl rfl rfl rfl rfl <| RunL.v (O.pkF (.lit rfl) rfl (.k rfl)) rfl rfl .none <| RunL.v (O.mv (.lit rfl)) rfl rfl .none <| RunL.ps rfl rfl rfl rfl rfl <| RunL.ps rfl rfl rfl rfl rfl <| RunL.ps rfl rfl rfl rfl rfl <| RunL.v (O.pkF (.lit rfl) rfl (.k rfl)) rfl rfl .none <| RunL.v (O.mv (.lit rfl)) rfl rfl .none <| RunL.ps rfl rfl rfl rfl rfl <| RunL.ps rfl rfl rfl rfl rfl <| RunL.ps rfl rfl rfl rfl rfl <| RunL.v (O.pkF (.lit rfl) rfl (.k rfl)) rfl rfl .none <| RunL.v (O.as (.lit rfl)) rfl rfl .none <| RunL.fin (.n rfl .nil)
      · obtain rfl := sm hj
        exact RunL.ps rfl rfl hb5 rfl rfl <| RunL.ps rfl rfl hb5 rfl rfl <| RunL.v (O.pkF (.lit rfl) hb5 (.k rfl)) rfl rfl .none <| RunL.v (O.mv (.lit rfl)) rfl rfl .none <| RunL.ps rfl rfl rfl rfl rfl <| RunL.ps rfl rfl rfl rfl rfl <| RunL.v (O.pkF (.lit rfl) rfl (.k rfl)) rfl rfl .none <| RunL.v (O.mv (.lit rfl)) rfl rfl .none <| RunL.ps rfl rfl rfl rfl rfl <| RunL.ps rfl rfl rfl rfl rfl <| RunL.v (O.pkF (.lit rfl) rfl (.k rfl)) rfl rfl .none <| RunL.v (O.mv (.lit rfl)) rfl rfl .none <| RunL.ps rfl rfl rfl rfl rfl <| RunL.ps rfl rfl rfl rfl rfl <| RunL.ps rfl rfl rfl rfl rfl <| RunL.v (O.pkF (.lit rfl) rfl (.k rfl)) rfl rfl .none <| RunL.v (O.mv (.lit rfl)) rfl rfl .none <| RunL.ps rfl rfl rfl rfl rfl <| RunL.ps rfl rfl rfl rfl rfl <| RunL.ps rfl rfl rfl rfl rfl <| RunL.v (O.pkF (.lit rfl) rfl (.k rfl)) rfl rfl .none <| RunL.v (O.mv (.lit rfl)) rfl rfl .none <| RunL.ps rfl rfl rfl rfl rfl <| RunL.ps rfl rfl rfl rfl rfl <| RunL.ps rfl rfl rfl rfl rfl <| RunL.v (O.pkF (.lit rfl) rfl (.k rfl)) rfl rfl .none <| RunL.v (O.as (.lit rfl)) rfl rfl .none <| RunL.fin (.n rfl .nil)
    · obtain rfl := sm hj
      exact RunL.ps rfl rfl hb4 rfl rfl <| RunL.ps rfl rfl hb4 rfl rfl <| RunL.v (O.pkF (.lit rfl) hb4 (.k rfl)) rfl rfl .none <| RunL.v (O.mv (.lit rfl)) rfl rfl .none <| RunL.ps rfl rfl rfl rfl rfl <| RunL.ps rfl rfl rfl rfl rfl <| RunL.v (O.pkF (.lit rfl) rfl (.k rfl)) rfl rfl .none <| RunL.v (O.mv (.lit rfl)) rfl rfl .none <| RunL.ps rfl rfl rfl rfl rfl <| RunL.ps rfl rfl rfl rfl rfl <| RunL.v (O.pkF (.lit rfl) rfl (.k rfl)) rfl rfl .none <| RunL.v (O.mv (.lit rfl)) rfl rfl .none <| RunL.ps rfl rfl rfl rfl rfl <| RunL.ps rfl rfl rfl rfl rfl <| RunL.v (O.pkF (.lit rfl) rfl (.k rfl)) rfl rfl .none <| RunL.v (O.mv (.lit rfl)) rfl rfl .none <| RunL.ps rfl rfl rfl rfl rfl <| RunL.ps rfl rfl rfl rfl rfl <| RunL.ps rfl rfl rfl rfl rfl <| RunL.v (O.pkF (.lit rfl) rfl (.k rfl)) rfl rfl .none <| RunL.v (O.mv (.lit rfl)) rfl rfl .none <| RunL.ps rfl rfl rfl rfl rfl <| RunL.ps rfl rfl rfl rfl rfl <| RunL.ps rfl rfl rfl rfl rfl <| RunL.v (O.pkF (.lit rfl) rfl (.k rfl)) rfl rfl .none <| RunL.v (O.mv (.lit rfl)) rfl rfl .none <| RunL.ps rfl rfl rfl rfl rfl <| RunL.ps rfl rfl rfl rfl rfl <| RunL.ps rfl rfl rfl rfl rfl <| RunL.v (O.pkF (.lit rfl) rfl (.k rfl)) rfl rfl .none <| RunL.v (O.as (.lit rfl)) rfl rfl .none <| RunL.fin (.n rfl .nil)
  refine Px.sq ?_
  refine W.rt ?_
  obtain rfl := sm h
  exact Px.fin (Fin.ro (.f rfl rfl .nil) rfl (of_decide_eq_true (by kernel_rfl)) .nil rfl (.inr rfl))
def pf27 (a0 : ByteArray) (a1 : Int) : Option (ByteArray) :=
 (bif decide (a1 < (a0.size : Int)) then
 (cutO a0 0 a1).bind fun x2 =>
 some x2
 else
 some a0)
theorem con27 (a0 : ByteArray) (a1 : Int) (r : ByteArray) (h : pf27 a0 a1 = some r) : Con Try.prog 27 [SS a0, I64 a1] [none, none] (SS r) := by
  unfold pf27 at h
  refine Con.go (N := ⟨13, []⟩) Try.func27 rfl rfl rfl rfl (W.fin ?_)
  refine W.st [(0, SS a0), (1, I64 a1)] ?_
  refine W.sq' ?_
  refine W.rx [(0, _), (1, _)] (RunL.v (O.as (.k rfl)) rfl rfl .none <| RunL.fin (.n rfl (.n rfl .nil))) ?_
  refine Px.sq ?_
  refine W.sq' ?_
  refine W.sq' ?_
  refine W.rx [(0, _), (1, _), (8, _)] (RunL.v (O.mv (.lit rfl)) rfl rfl .none <| RunL.v (O.lenS (.lit rfl) st9) rfl rfl .none <| RunL.v (O.mv (.lit rfl)) rfl rfl .none <| RunL.v (O.gtr (.lit rfl) (.lit rfl)) rfl rfl .none <| RunL.fin (.n rfl (.n rfl (.n rfl .nil)))) ?_
  refine Px.sq ?_
  refine W.cnd rfl (fun hb1 => ?_) (fun hb1 => ?_)
  · replace h := cndT hb1 h
    refine W.sq' ?_
    obtain ⟨x2, hx2, h⟩ := bnd h
    refine W.rx [(4, _)] (RunL.v (O.mv (.lit rfl)) rfl rfl .none <| RunL.v (O.mv (.lit rfl)) rfl rfl .none <| RunL.v (O.sl0 (.lit rfl) (.lit rfl) st9 hx2) rfl rfl .none <| RunL.v (O.as (.lit rfl)) rfl rfl .none <| RunL.fin (.n rfl .nil)) ?_
    refine Px.sq ?_
    refine W.rt ?_
    refine Px.sqR ?_
    obtain rfl := sm h
    exact Px.fin (Fin.ro (.f rfl rfl .nil) rfl (of_decide_eq_true (by kernel_rfl)) (.no (.no .nil)) rfl (.inr rfl))
  · replace h := cndF hb1 h
    refine W.sk ?_
    refine Px.sq ?_
    refine W.sq' ?_
    refine W.rx [(4, _)] (RunL.v (O.mv (.lit rfl)) rfl rfl .none <| RunL.v (O.as (.lit rfl)) rfl rfl .none <| RunL.fin (.n rfl .nil)) ?_
    refine Px.sq ?_
    refine W.rt ?_
    obtain rfl := sm h
    exact Px.fin (Fin.ro (.f rfl rfl .nil) rfl (of_decide_eq_true (by kernel_rfl)) (.no (.no .nil)) rfl (.inr rfl))
def pf45 (a0 : Sym) : Option (Sym) :=
 (pf27 a0.Name 25).bind fun x1 =>
 some (⟨x1, a0.Lit, a0.Num, a0.At⟩ : Sym)
theorem con45 (a0 : Sym) (r : Sym) (h : pf45 a0 = some r) : Con Try.prog 45 [.agg [SS a0.Name, BB a0.Lit, I64 a0.Num, I64 a0.At]] [none] (.agg [SS r.Name, BB r.Lit, I64 r.Num, I64 r.At]) := by
  unfold pf45 at h
  refine Con.go (N := ⟨13, []⟩) Try.func45 rfl rfl rfl rfl (W.fin ?_)
  refine W.st [(0, .agg [SS a0.Name, BB a0.Lit, I64 a0.Num, I64 a0.At])] ?_
  refine W.sq' ?_
  refine W.rx [(1, _), (2, _)] (RunL.v (O.box (.aggF rfl rfl) rfl) rfl rfl .none <| RunL.v (O.al (cs := [SS ({ data := #[] }), BB false, I64 0, I64 0]) ze91 rfl rfl) rfl rfl .none <| RunL.fin (.n rfl (.n rfl .nil))) ?_
  refine Px.sq ?_
  refine W.sq' ?_
  obtain ⟨x1, hx1, h⟩ := bnd h
  refine W.rd [[], [0], [0, 1], [], [3], [], [5], [], [7], [0, 1, 2, 3, 4, 5, 6, 7, 8], [0, 1, 2, 3, 4, 5, 6, 7, 8, 9]] [(2, _)] mixo (by kernel_rfl) (DL.v 0 (O.fO rfl (.obj rfl) fd91_0 rfl) rfl rfl rfl rfl .none <| DL.v 1 (O.ldO (y := SS a0.Name) rfl (.ptr rfl) ct9 rfl rfl) rfl rfl rfl rfl .none <| DL.c 2 (PC.go (.cc (.lit rfl) (.cc (.k rfl) .nil)) (con27 a0.Name 25 _ hx1) call27 rfl) rfl rfl rfl rfl .none <| DL.v 3 (O.fO rfl (.obj rfl) fd91_1 rfl) rfl rfl rfl rfl .none <| DL.v 4 (O.ldO (y := BB a0.Lit) rfl (.ptr rfl) ct4 rfl rfl) rfl rfl rfl rfl .none <| DL.v 5 (O.fO rfl (.obj rfl) fd91_2 rfl) rfl rfl rfl rfl .none <| DL.v 6 (O.ldO (y := I64 a0.Num) rfl (.ptr rfl) ct3 rfl rfl) rfl rfl rfl rfl .none <| DL.v 7 (O.fO rfl (.obj rfl) fd91_3 rfl) rfl rfl rfl rfl .none <| DL.v 8 (O.ldO (y := I64 a0.At) rfl (.ptr rfl) ct3 rfl rfl) rfl rfl rfl rfl .none <| DL.v 9 (O.bu (cs := [SS x1, BB a0.Lit, I64 a0.Num, I64 a0.At]) sc91 ze91 rfl rfl rfl) rfl rfl rfl rfl .none <| DL.sO 10 (G2 := [(2, .obj [SS x1, BB a0.Lit, I64 a0.Num, I64 a0.At])]) (cs2 := [SS x1, BB a0.Lit, I64 a0.Num, I64 a0.At]) rfl (by kernel_rfl) (by kernel_rfl) rfl rfl rfl (.obj rfl) (.aggF rfl rfl) rfl sz91 rfl rfl rfl rfl (.b rfl .nil) <| DL.fin rfl rfl rfl (.n rfl .nil)) ?_
  refine Px.sq ?_
  refine W.rt ?_
  obtain rfl := sm h
  exact Px.fin (Fin.ro (.c (ys0 := [SS x1, BB a0.Lit, I64 a0.Num, I64 a0.At]) rfl at91 rfl rfl rfl (.f rfl (.f rfl (.f rfl (.f rfl .nil)))) .nil) rfl (of_decide_eq_true (by kernel_rfl)) (.no .nil) rfl (.inr rfl))
def pf16 (a0 : Source) : Option (Source) :=
 (pf27 a0.Pro 40).bind fun x1 =>
 (pf27 a0.Tail 40).bind fun x2 =>
 (loopM (R := List Decl) (fun (s3 : List Decl × Int) =>
 ((bif decide (s3.2 < (a0.Decls.length : Int)) then some (decide (s3.2 < 8)) else some false)).bind fun c7 =>
 (bif c7 then
 (idx a0.Decls s3.2).bind fun x9 =>
 (idx a0.Decls s3.2).bind fun x10 =>
 (pf27 x10.Tag 25).bind fun x11 =>
 (idx a0.Decls s3.2).bind fun x12 =>
 (loopM (R := List Sym) (fun (s13 : List Sym × Int) =>
 (((idx a0.Decls s3.2).bind fun x16 => (bif decide (s13.2 < (x16.Syms.length : Int)) then some (decide (s13.2 < 6)) else some false))).bind fun c18 =>
 (bif c18 then
 (idx a0.Decls s3.2).bind fun x20 =>
 (idx x20.Syms s13.2).bind fun x21 =>
 (pf45 x21).bind fun x22 =>
 (appO s13.1 [x22]).bind fun x23 =>
 some (.inl (s13.1 ++ [x22], w64 (s13.2 + 1)))
 else
 some (.inr s13.1))) (([] : List Sym), 0)).bind fun x14 =>
 (appO s3.1 [(⟨x9.Kind, x11, x14, x12.At⟩ : Decl)]).bind fun x24 =>
 some (.inl (s3.1 ++ [(⟨x9.Kind, x11, x14, x12.At⟩ : Decl)], w64 (s3.2 + 1)))
 else
 some (.inr s3.1))) (([] : List Decl), 0)).bind fun x4 =>
 (loopM (R := List Rule) (fun (s25 : List Rule × Int) =>
 ((bif decide (s25.2 < (a0.Rules.length : Int)) then some (decide (s25.2 < 6)) else some false)).bind fun c29 =>
 (bif c29 then
 (idx a0.Rules s25.2).bind fun x31 =>
 (pf27 x31.Left 25).bind fun x32 =>
 (idx a0.Rules s25.2).bind fun x33 =>
 (loopM (R := List Alt) (fun (s34 : List Alt × Int) =>
 (((idx a0.Rules s25.2).bind fun x37 => (bif decide (s34.2 < (x37.Alts.length : Int)) then some (decide (s34.2 < 5)) else some false))).bind fun c39 =>
 (bif c39 then
 (idx a0.Rules s25.2).bind fun x41 =>
 (idx x41.Alts s34.2).bind fun x42 =>
 (pf45 x42.Prec).bind fun x43 =>
 (idx a0.Rules s25.2).bind fun x44 =>
 (idx x44.Alts s34.2).bind fun x45 =>
 (loopM (R := List Part) (fun (s46 : List Part × Int) =>
 (((idx a0.Rules s25.2).bind fun x49 => ((idx x49.Alts s34.2).bind fun x50 => (bif decide (s46.2 < (x50.Parts.length : Int)) then some (decide (s46.2 < 6)) else some false)))).bind fun c52 =>
 (bif c52 then
 (idx a0.Rules s25.2).bind fun x54 =>
 (idx x54.Alts s34.2).bind fun x55 =>
 (idx x55.Parts s46.2).bind fun x56 =>
 (pf45 x56.Sym).bind fun x57 =>
 (pf27 x56.Code 60).bind fun x58 =>
 (appO s46.1 [(⟨x57, x58, x56.At⟩ : Part)]).bind fun x59 =>
 some (.inl (s46.1 ++ [(⟨x57, x58, x56.At⟩ : Part)], w64 (s46.2 + 1)))
 else
 some (.inr s46.1))) (([] : List Part), 0)).bind fun x47 =>
 (appO s34.1 [(⟨x47, x43, x45.At⟩ : Alt)]).bind fun x60 =>
 some (.inl (s34.1 ++ [(⟨x47, x43, x45.At⟩ : Alt)], w64 (s34.2 + 1)))
 else
 some (.inr s34.1))) (([] : List Alt), 0)).bind fun x35 =>
 (appO s25.1 [(⟨x32, x35, x33.At⟩ : Rule)]).bind fun x61 =>
 some (.inl (s25.1 ++ [(⟨x32, x35, x33.At⟩ : Rule)], w64 (s25.2 + 1)))
 else
 some (.inr s25.1))) (([] : List Rule), 0)).bind fun x26 =>
 some (⟨x1, x4, x26, x2⟩ : Source)
theorem con16 (a0 : Source) (r : Source) (h : pf16 a0 = some r) : Con Try.prog 16 [.agg [SS a0.Pro, iR eDecl_0 a0.Decls, iR eRule_0 a0.Rules, SS a0.Tail]] [none] (.agg [SS r.Pro, iR eDecl_0 r.Decls, iR eRule_0 r.Rules, SS r.Tail]) := by
  unfold pf16 at h
  refine Con.go (N := ⟨208, []⟩) Try.func16 rfl rfl rfl rfl (W.fin ?_)
  refine W.st [(0, .agg [SS a0.Pro, iR eDecl_0 a0.Decls, iR eRule_0 a0.Rules, SS a0.Tail])] ?_
  refine W.sq' ?_
  refine W.rx [(1, _), (2, _)] (RunL.v (O.box (.aggF rfl rfl) rfl) rfl rfl .none <| RunL.v (O.al (cs := [SS ({ data := #[] }), .nils, .nils, SS ({ data := #[] })]) ze25 rfl rfl) rfl rfl .none <| RunL.fin (.n rfl (.n rfl .nil))) ?_
  refine Px.sq ?_
  refine W.sq' ?_
  obtain ⟨x1, hx1, h⟩ := bnd h
  obtain ⟨x2, hx2, h⟩ := bnd h
  refine W.rd [[], [0], [0, 1], [], [3], [0, 1, 2, 3, 4], [0, 1, 2, 3, 4, 5], [], [0, 1, 2, 3, 4, 5, 6, 7]] [(1, _), (2, _), (3, _)] mixo (by kernel_rfl) (DL.v 0 (O.fO rfl (.obj rfl) fd25_0 rfl) rfl rfl rfl rfl .none <| DL.v 1 (O.ldO (y := SS a0.Pro) rfl (.ptr rfl) ct9 rfl rfl) rfl rfl rfl rfl .none <| DL.c 2 (PC.go (.cc (.lit rfl) (.cc (.k rfl) .nil)) (con27 a0.Pro 40 _ hx1) call27 rfl) rfl rfl rfl rfl .none <| DL.v 3 (O.fO rfl (.obj rfl) fd25_3 rfl) rfl rfl rfl rfl .none <| DL.v 4 (O.ldO (y := SS a0.Tail) rfl (.ptr rfl) ct9 rfl rfl) rfl rfl rfl rfl .none <| DL.c 5 (PC.go (.cc (.lit rfl) (.cc (.k rfl) .nil)) (con27 a0.Tail 40 _ hx2) call27 rfl) rfl rfl rfl rfl .none <| DL.v 6 (O.bu (cs := [SS x1, .nils, .nils, SS x2]) sc25 ze25 rfl rfl rfl) rfl rfl rfl rfl .none <| DL.v 7 (O.al (cs := [SS ({ data := #[] }), .nils, .nils, SS ({ data := #[] })]) ze25 rfl rfl) rfl rfl rfl rfl .none <| DL.sO 8 (G2 := [(1, .obj [SS a0.Pro, iR eDecl_0 a0.Decls, iR eRule_0 a0.Rules, SS a0.Tail]), (2, .obj [SS ({ data := #[] }), .nils, .nils, SS ({ data := #[] })]), (3, .obj [SS x1, .nils, .nils, SS x2])]) (cs2 := [SS x1, .nils, .nils, SS x2]) rfl (by kernel_rfl) (by kernel_rfl) rfl rfl rfl (.obj rfl) (.aggF rfl rfl) rfl sz25 rfl rfl rfl rfl (.n rfl rfl (.n rfl rfl (.b rfl .nil))) <| DL.fin rfl rfl rfl (.n rfl (.n rfl (.n rfl .nil)))) ?_
  refine Px.sq ?_
  refine W.sq' ?_
  refine W.sq' ?_
  refine W.rx [(1, _), (2, _), (3, _), (4, _)] (RunL.v (O.as (.k rfl)) rfl rfl .none <| RunL.fin (.n rfl (.n rfl (.n rfl (.n rfl .nil))))) ?_
  refine Px.sq ?_
  refine W.bk ?_
  obtain ⟨x4, hl, h⟩ := bnd h
  refine W.tr (G1 := [(1, .obj [SS a0.Pro, iR eDecl_0 a0.Decls, iR eRule_0 a0.Rules, SS a0.Tail]), (2, .obj [SS ({ data := #[] }), .nils, .nils, SS ({ data := #[] })]), (3, .obj [SS x1, oR eDecl_0 ([] : List Decl), .nils, SS x2]), (4, I64 0)]) (.n rfl (.n rfl (.w rfl rfl (WkL.obj (.f (.o (.f (.f .nil))))) (.n rfl .nil)))) ?_
  refine W.lp1 (s := (([] : List Decl), 0)) (fun (s3 : List Decl × Int) => [(1, .obj [SS a0.Pro, iR eDecl_0 a0.Decls, iR eRule_0 a0.Rules, SS a0.Tail]), (2, .obj [SS ({ data := #[] }), .nils, .nils, SS ({ data := #[] })]), (3, .obj [SS x1, oR eDecl_0 s3.1, .nils, SS x2]), (4, I64 s3.2)]) 0 (fun (x4 : List Decl) => [(1, .obj [SS a0.Pro, iR eDecl_0 a0.Decls, iR eRule_0 a0.Rules, SS a0.Tail]), (2, .obj [SS ({ data := #[] }), .nils, .nils, SS ({ data := #[] })]), (3, .obj [SS x1, oR eDecl_0 x4, .nils, SS x2])]) hl (fun s3 o h => ?_) ?_
  · clear hl
    refine W.sq' ?_
    refine W.sq' ?_
    obtain ⟨c7, hj, h⟩ := bnd h
    refine W.rx [(1, .obj [SS a0.Pro, iR eDecl_0 a0.Decls, iR eRule_0 a0.Rules, SS a0.Tail]), (2, .obj [SS ({ data := #[] }), .nils, .nils, SS ({ data := #[] })]), (3, .obj [SS x1, oR eDecl_0 s3.1, .nils, SS x2]), (4, I64 s3.2), (28, BB c7)] ?_ ?_
    · refine RunL.v (O.mv (.lit rfl)) rfl rfl .none <| RunL.v (O.fO rfl (.obj rfl) fd25_1 rfl) rfl rfl .none <| RunL.v (O.ldO (y := iR eDecl_0 a0.Decls) rfl (.ptr rfl) ct22 rfl rfl) rfl rfl .none <| RunL.v (O.lenI (.imm rfl) sl22) rfl rfl .none <| RunL.v (O.lss (.lit rfl) (.lit rfl)) rfl rfl .none <| RunL.v (O.mv (.lit rfl)) rfl rfl .none ?_
      rcases cnd hj with ⟨hb6, hj⟩ | ⟨hb6, hj⟩
      · obtain rfl := sm hj
        exact RunL.v (O.mv (.lit rfl)) rfl rfl (.yb rfl rfl hb6) <| RunL.v (O.lss (.lit rfl) (.k rfl)) rfl rfl (.yb rfl rfl hb6) <| RunL.v (O.pkT (.lit rfl) hb6 (.lit rfl)) rfl rfl .none <| RunL.fin (.n rfl (.n rfl (.n rfl (.n rfl (.n rfl .nil)))))
      · obtain rfl := sm hj
        exact RunL.ps rfl rfl hb6 rfl rfl <| RunL.ps rfl rfl hb6 rfl rfl <| RunL.v (O.pkF (.lit rfl) hb6 (.k rfl)) rfl rfl .none <| RunL.fin (.n rfl (.n rfl (.n rfl (.n rfl (.n rfl .nil)))))
    refine Px.sq ?_
    refine W.cnd rfl (fun hb8 => ?_) (fun hb8 => ?_)
    · replace h := cndT hb8 h
      refine W.sk ?_
      refine Px.sq ?_
      refine W.sq' ?_
      refine W.bk ?_
      refine W.sq' ?_
      obtain ⟨x9, hx9, h⟩ := bnd h
      obtain ⟨x10, hx10, h⟩ := bnd h
      obtain ⟨x11, hx11, h⟩ := bnd h
      obtain ⟨x12, hx12, h⟩ := bnd h
      refine W.rd [[], [0], [], [0, 1, 2], [0, 1, 2, 3], [0, 1, 2, 3, 4], [], [6], [], [6, 7, 8], [6, 7, 8, 9], [6, 7, 8, 9, 10], [6, 7, 8, 9, 10, 11], [], [13], [], [13, 14, 15], [13, 14, 15, 16], [13, 14, 15, 16, 17], [0, 1, 2, 3, 4, 5, 6, 7, 8, 9, 10, 11, 12, 13, 14, 15, 16, 17, 18], [], [0, 1, 2, 3, 4, 5, 6, 7, 8, 9, 10, 11, 12, 13, 14, 15, 16, 17, 18, 19, 20]] [(1, _), (2, _), (3, _), (4, _), (5, _)] mixo (by kernel_rfl) (DL.v 0 (O.fO rfl (.obj rfl) fd25_1 rfl) rfl rfl rfl rfl .none <| DL.v 1 (O.ldO (y := iR eDecl_0 a0.Decls) rfl (.ptr rfl) ct22 rfl rfl) rfl rfl rfl rfl .none <| DL.v 2 (O.mv (.lit rfl)) rfl rfl rfl rfl .none <| DL.v 3 (O.ixI (.imm rfl) (.lit rfl) sl22 hx9) rfl rfl rfl rfl .none <| DL.v 4 (O.fI (.iptr rfl) fd89_0) rfl rfl rfl rfl .none <| DL.v 5 (O.ldI (x := I64 x9.Kind) (.iptr rfl) ct3 rfl) rfl rfl rfl rfl .none <| DL.v 6 (O.fO rfl (.obj rfl) fd25_1 rfl) rfl rfl rfl rfl .none <| DL.v 7 (O.ldO (y := iR eDecl_0 a0.Decls) rfl (.ptr rfl) ct22 rfl rfl) rfl rfl rfl rfl .none <| DL.v 8 (O.mv (.lit rfl)) rfl rfl rfl rfl .none <| DL.v 9 (O.ixI (.imm rfl) (.lit rfl) sl22 hx10) rfl rfl rfl rfl .none <| DL.v 10 (O.fI (.iptr rfl) fd89_1) rfl rfl rfl rfl .none <| DL.v 11 (O.ldI (x := SS x10.Tag) (.iptr rfl) ct9 rfl) rfl rfl rfl rfl .none <| DL.c 12 (PC.go (.cc (.lit rfl) (.cc (.k rfl) .nil)) (con27 x10.Tag 25 _ hx11) call27 rfl) rfl rfl rfl rfl .none <| DL.v 13 (O.fO rfl (.obj rfl) fd25_1 rfl) rfl rfl rfl rfl .none <| DL.v 14 (O.ldO (y := iR eDecl_0 a0.Decls) rfl (.ptr rfl) ct22 rfl rfl) rfl rfl rfl rfl .none <| DL.v 15 (O.mv (.lit rfl)) rfl rfl rfl rfl .none <| DL.v 16 (O.ixI (.imm rfl) (.lit rfl) sl22 hx12) rfl rfl rfl rfl .none <| DL.v 17 (O.fI (.iptr rfl) fd89_3) rfl rfl rfl rfl .none <| DL.v 18 (O.ldI (x := I64 x12.At) (.iptr rfl) ct3 rfl) rfl rfl rfl rfl .none <| DL.v 19 (O.bu (cs := [I64 x9.Kind, SS x11, .nils, I64 x12.At]) sc89 ze89 rfl rfl rfl) rfl rfl rfl rfl .none <| DL.v 20 (O.al (cs := [I64 0, SS ({ data := #[] }), .nils, I64 0]) ze89 rfl rfl) rfl rfl rfl rfl .none <| DL.sO 21 (G2 := [(1, .obj [SS a0.Pro, iR eDecl_0 a0.Decls, iR eRule_0 a0.Rules, SS a0.Tail]), (2, .obj [SS ({ data := #[] }), .nils, .nils, SS ({ data := #[] })]), (3, .obj [SS x1, oR eDecl_0 s3.1, .nils, SS x2]), (4, I64 s3.2), (5, .obj [I64 x9.Kind, SS x11, .nils, I64 x12.At])]) (cs2 := [I64 x9.Kind, SS x11, .nils, I64 x12.At]) rfl (by kernel_rfl) (by kernel_rfl) rfl rfl rfl (.obj rfl) (.aggF rfl rfl) rfl sz89 rfl rfl rfl rfl (.n rfl rfl (.n rfl rfl (.n rfl rfl (.n rfl rfl (.b rfl .nil))))) <| DL.fin rfl rfl rfl (.n rfl (.n rfl (.n rfl (.n rfl (.n rfl .nil)))))) ?_
      refine Px.sq ?_
      refine W.sq' ?_
      refine W.sq' ?_
      refine W.rx [(1, _), (2, _), (3, _), (4, _), (5, _), (6, _)] (RunL.v (O.as (.k rfl)) rfl rfl .none <| RunL.fin (.n rfl (.n rfl (.n rfl (.n rfl (.n rfl (.n rfl .nil))))))) ?_
      refine Px.sq ?_
      refine W.bk ?_
      obtain ⟨x14, hl, h⟩ := bnd h
      refine W.tr (G1 := [(1, .obj [SS a0.Pro, iR eDecl_0 a0.Decls, iR eRule_0 a0.Rules, SS a0.Tail]), (2, .obj [SS ({ data := #[] }), .nils, .nils, SS ({ data := #[] })]), (3, .obj [SS x1, oR eDecl_0 s3.1, .nils, SS x2]), (4, I64 s3.2), (5, .obj [I64 x9.Kind, SS x11, oR eSym ([] : List Sym), I64 x12.At]), (6, I64 0)]) (.n rfl (.n rfl (.n rfl (.n rfl (.w rfl rfl (WkL.obj (.f (.f (.o (.f .nil))))) (.n rfl .nil)))))) ?_
      refine W.lp1 (s := (([] : List Sym), 0)) (fun (s13 : List Sym × Int) => [(1, .obj [SS a0.Pro, iR eDecl_0 a0.Decls, iR eRule_0 a0.Rules, SS a0.Tail]), (2, .obj [SS ({ data := #[] }), .nils, .nils, SS ({ data := #[] })]), (3, .obj [SS x1, oR eDecl_0 s3.1, .nils, SS x2]), (4, I64 s3.2), (5, .obj [I64 x9.Kind, SS x11, oR eSym s13.1, I64 x12.At]), (6, I64 s13.2)]) 2 (fun (x14 : List Sym) => [(1, .obj [SS a0.Pro, iR eDecl_0 a0.Decls, iR eRule_0 a0.Rules, SS a0.Tail]), (2, .obj [SS ({ data := #[] }), .nils, .nils, SS ({ data := #[] })]), (3, .obj [SS x1, oR eDecl_0 s3.1, .nils, SS x2]), (4, I64 s3.2), (5, .obj [I64 x9.Kind, SS x11, oR eSym x14, I64 x12.At])]) hl (fun s13 o h => ?_) ?_
      · clear hl
        refine W.sq' ?_
        refine W.sq' ?_
        obtain ⟨c18, hj, h⟩ := bnd h
        refine W.rx [(1, .obj [SS a0.Pro, iR eDecl_0 a0.Decls, iR eRule_0 a0.Rules, SS a0.Tail]), (2, .obj [SS ({ data := #[] }), .nils, .nils, SS ({ data := #[] })]), (3, .obj [SS x1, oR eDecl_0 s3.1, .nils, SS x2]), (4, I64 s3.2), (5, .obj [I64 x9.Kind, SS x11, oR eSym s13.1, I64 x12.At]), (6, I64 s13.2), (63, BB c18)] ?_ ?_
        · refine RunL.v (O.mv (.lit rfl)) rfl rfl .none <| RunL.v (O.fO rfl (.obj rfl) fd25_1 rfl) rfl rfl .none <| RunL.v (O.ldO (y := iR eDecl_0 a0.Decls) rfl (.ptr rfl) ct22 rfl rfl) rfl rfl .none <| RunL.v (O.mv (.lit rfl)) rfl rfl .none ?_
          obtain ⟨x16, hx16, hj⟩ := bnd hj
          refine RunL.v (O.ixI (.imm rfl) (.lit rfl) sl22 hx16) rfl rfl .none <| RunL.v (O.fI (.iptr rfl) fd89_2) rfl rfl .none <| RunL.v (O.ldI (x := iR eSym x16.Syms) (.iptr rfl) ct87 rfl) rfl rfl .none <| RunL.v (O.lenI (.imm rfl) sl87) rfl rfl .none <| RunL.v (O.lss (.lit rfl) (.lit rfl)) rfl rfl .none <| RunL.v (O.mv (.lit rfl)) rfl rfl .none ?_
          rcases cnd hj with ⟨hb17, hj⟩ | ⟨hb17, hj⟩
          · obtain rfl := sm hj
            exact RunL.v (O.mv (.lit rfl)) rfl rfl (.yb rfl rfl hb17) <| RunL.v (O.lss (.lit rfl) (.k rfl)) rfl rfl (.yb rfl rfl hb17) <| RunL.v (O.pkT (.lit rfl) hb17 (.lit rfl)) rfl rfl .none <| RunL.fin (.n rfl (.n rfl (.n rfl (.n rfl (.n rfl (.n rfl (.n rfl .nil)))))))
          · obtain rfl := sm hj
            exact RunL.ps rfl rfl hb17 rfl rfl <| RunL.ps rfl rfl hb17 rfl rfl <| RunL.v (O.pkF (.lit rfl) hb17 (.k rfl)) rfl rfl .none <| RunL.fin (.n rfl (.n rfl (.n rfl (.n rfl (.n rfl (.n rfl (.n rfl .nil)))))))
        refine Px.sq ?_
        refine W.cnd rfl (fun hb19 => ?_) (fun hb19 => ?_)
        · replace h := cndT hb19 h
          refine W.sk ?_
          refine Px.sq ?_
          refine W.sq' ?_
          refine W.bk ?_
          obtain ⟨x20, hx20, h⟩ := bnd h
          obtain ⟨x21, hx21, h⟩ := bnd h
          obtain ⟨x22, hx22, h⟩ := bnd h
          obtain ⟨x23, hx23, h⟩ := bnd h
          refine W.rd [[], [0], [], [2], [], [2, 3, 4], [2, 3, 4, 5], [2, 3, 4, 5, 6], [], [2, 3, 4, 5, 6, 7, 8], [2, 3, 4, 5, 6, 7, 8, 9], [2, 3, 4, 5, 6, 7, 8, 9, 10], [2, 3, 4, 5, 6, 7, 8, 9, 10, 11], [0, 1, 2, 3, 4, 5, 6, 7, 8, 9, 10, 11, 12], [0, 1, 2, 3, 4, 5, 6, 7, 8, 9, 10, 11, 12, 13], [0, 1, 2, 3, 4, 5, 6, 7, 8, 9, 10, 11, 12, 13, 14]] [(1, _), (2, _), (3, _), (4, _), (5, _), (6, _)] mixo (by kernel_rfl) (DL.v 0 (O.fO rfl (.obj rfl) fd89_2 rfl) rfl rfl rfl rfl .none <| DL.v 1 (O.ldO (y := .brw eSym.z ⟨5, [2]⟩ s13.1.length) rfl (.ptr rfl) ct87 rfl rfl) rfl rfl rfl rfl .none <| DL.v 2 (O.fO rfl (.obj rfl) fd25_1 rfl) rfl rfl rfl rfl .none <| DL.v 3 (O.ldO (y := iR eDecl_0 a0.Decls) rfl (.ptr rfl) ct22 rfl rfl) rfl rfl rfl rfl .none <| DL.v 4 (O.mv (.lit rfl)) rfl rfl rfl rfl .none <| DL.v 5 (O.ixI (.imm rfl) (.lit rfl) sl22 hx20) rfl rfl rfl rfl .none <| DL.v 6 (O.fI (.iptr rfl) fd89_2) rfl rfl rfl rfl .none <| DL.v 7 (O.ldI (x := iR eSym x20.Syms) (.iptr rfl) ct87 rfl) rfl rfl rfl rfl .none <| DL.v 8 (O.mv (.lit rfl)) rfl rfl rfl rfl .none <| DL.v 9 (O.ixI (.imm rfl) (.lit rfl) sl87 hx21) rfl rfl rfl rfl .none <| DL.v 10 (O.ldIN (cs' := [SS x21.Name, BB x21.Lit, I64 x21.Num, I64 x21.At]) (.iptr rfl) at91 rfl rfl) rfl rfl rfl rfl .none <| DL.c 11 (PC.go (.cc (.aggF rfl rfl) .nil) (con45 x21 _ hx22) call45 rfl) rfl rfl rfl rfl .none <| DL.vi 12 (x := iR eSym [x22]) (O.bs (ys := [.agg [SS x22.Name, BB x22.Lit, I64 x22.Num, I64 x22.At]]) eSym [x22] sl87 rfl rfl rfl rfl rfl rfl zt91 rfl rfl) rfl rfl rfl rfl .none <| DL.v 13 (O.ap (en := eSym) (r := x23) (.brw rfl) rfl (.imm rfl) .i ap87 rfl hx23) rfl rfl rfl rfl .none <| DL.v 14 (O.fO rfl (.obj rfl) fd89_2 rfl) rfl rfl rfl rfl .none <| DL.bp 15 (G2 := [(1, .obj [SS a0.Pro, iR eDecl_0 a0.Decls, iR eRule_0 a0.Rules, SS a0.Tail]), (2, .obj [SS ({ data := #[] }), .nils, .nils, SS ({ data := #[] })]), (3, .obj [SS x1, oR eDecl_0 s3.1, .nils, SS x2]), (4, I64 s3.2), (5, .obj [I64 x9.Kind, SS x11, oR eSym (s13.1 ++ [x22]), I64 x12.At]), (6, I64 s13.2)]) (EO.stP (g1 := _) (en := eSym) (M := [x22]) (cs2 := [I64 x9.Kind, SS x11, oR eSym (s13.1 ++ [x22]), I64 x12.At]) rfl rfl (.ptr rfl) (.pend rfl) rfl rfl rfl .ns .rf rfl rfl sz87 rfl rfl rfl rfl (.n rfl rfl (.n rfl rfl (.n rfl rfl (.n rfl rfl (.b rfl (.n rfl rfl .nil))))))) rfl rfl rfl rfl (by kernel_rfl) (by kernel_rfl) <| DL.fin rfl rfl rfl (.n rfl (.n rfl (.n rfl (.n rfl (.n rfl (.n rfl .nil))))))) ?_
          refine Px.bk ?_
          refine Px.sq ?_
          refine W.rx [(1, _), (2, _), (3, _), (4, _), (5, _), (6, _)] (RunL.v (O.mv (.lit rfl)) rfl rfl .none <| RunL.v (O.add (.lit rfl) (.k rfl)) rfl rfl .none <| RunL.re (G1 := [(1, .obj [SS a0.Pro, iR eDecl_0 a0.Decls, iR eRule_0 a0.Rules, SS a0.Tail]), (2, .obj [SS ({ data := #[] }), .nils, .nils, SS ({ data := #[] })]), (3, .obj [SS x1, oR eDecl_0 s3.1, .nils, SS x2]), (4, I64 s3.2), (5, .obj [I64 x9.Kind, SS x11, oR eSym (s13.1 ++ [x22]), I64 x12.At]), (65, I64 (w64 (s13.2 + 1)))]) (.n rfl (.n rfl (.n rfl (.n rfl (.n rfl (.n rfl .nil)))))) <| RunL.v (O.as (.lit rfl)) rfl rfl .none <| RunL.fin (.n rfl (.n rfl (.n rfl (.n rfl (.n rfl (.n rfl .nil))))))) ?_
          obtain rfl := sm h
          exact Px.go (.n rfl (.n rfl (.n rfl (.n rfl (.n rfl (.n rfl .nil))))))
        · replace h := cndF hb19 h
          refine W.xi ?_
          refine Px.sqE ?_
          obtain rfl := sm h
          exact Px.x1 (.n rfl (.n rfl (.n rfl (.n rfl (.n rfl .nil)))))
      refine Px.bkH ?_
      refine Px.sq ?_
      refine W.fz (G1 := [(1, .obj [SS a0.Pro, iR eDecl_0 a0.Decls, iR eRule_0 a0.Rules, SS a0.Tail]), (2, .obj [SS ({ data := #[] }), .nils, .nils, SS ({ data := #[] })]), (3, .obj [SS x1, oR eDecl_0 s3.1, .nils, SS x2]), (4, I64 s3.2), (5, .obj [I64 x9.Kind, SS x11, iR eSym x14, I64 x12.At])]) [5] (.n rfl rfl (.n rfl rfl (.n rfl rfl (.n rfl rfl (.z rfl rfl (FzL.obj (.f (.f (.z (.f .nil))))) .nil))))) ?_
      obtain ⟨x24, hx24, h⟩ := bnd h
      refine W.rx [(1, _), (2, _), (3, _), (4, _)] (RunL.v (O.fO rfl (.obj rfl) fd25_1 rfl) rfl rfl .none <| RunL.v (O.ldO (y := .brw eDecl_0.z ⟨3, [1]⟩ s3.1.length) rfl (.ptr rfl) ct22 rfl rfl) rfl rfl .none <| RunL.v (O.ldON (cs' := [I64 x9.Kind, SS x11, iR eSym x14, I64 x12.At]) rfl (.obj rfl) at89 rfl rfl) rfl rfl .none <| RunL.vi (x := iR eDecl_0 [(⟨x9.Kind, x11, x14, x12.At⟩ : Decl)]) (O.bs (ys := [.agg [I64 x9.Kind, SS x11, iR eSym x14, I64 x12.At]]) eDecl_0 [(⟨x9.Kind, x11, x14, x12.At⟩ : Decl)] sl22 rfl rfl rfl rfl rfl rfl zt89 rfl rfl) rfl rfl .none <| RunL.v (O.ap (en := eDecl_0) (r := x24) (.brw rfl) rfl (.imm rfl) .i ap22 rfl hx24) rfl rfl .none <| RunL.v (O.fO rfl (.obj rfl) fd25_1 rfl) rfl rfl .none <| RunL.ef (G2 := [(1, .obj [SS a0.Pro, iR eDecl_0 a0.Decls, iR eRule_0 a0.Rules, SS a0.Tail]), (2, .obj [SS ({ data := #[] }), .nils, .nils, SS ({ data := #[] })]), (3, .obj [SS x1, oR eDecl_0 (s3.1 ++ [(⟨x9.Kind, x11, x14, x12.At⟩ : Decl)]), .nils, SS x2]), (4, I64 s3.2)]) rfl (EO.stP (g1 := _) (en := eDecl_0) (M := [(⟨x9.Kind, x11, x14, x12.At⟩ : Decl)]) (cs2 := [SS x1, oR eDecl_0 (s3.1 ++ [(⟨x9.Kind, x11, x14, x12.At⟩ : Decl)]), .nils, SS x2]) rfl rfl (.ptr rfl) (.pend rfl) rfl rfl rfl .ns .rf rfl rfl sz22 rfl rfl rfl rfl (.n rfl rfl (.n rfl rfl (.b rfl (.n rfl rfl .nil))))) <| RunL.fin (.n rfl (.n rfl (.n rfl (.n rfl .nil))))) ?_
      refine Px.bk ?_
      refine Px.sq ?_
      refine W.rx [(1, _), (2, _), (3, _), (4, _)] (RunL.v (O.mv (.lit rfl)) rfl rfl .none <| RunL.v (O.add (.lit rfl) (.k rfl)) rfl rfl .none <| RunL.re (G1 := [(1, .obj [SS a0.Pro, iR eDecl_0 a0.Decls, iR eRule_0 a0.Rules, SS a0.Tail]), (2, .obj [SS ({ data := #[] }), .nils, .nils, SS ({ data := #[] })]), (3, .obj [SS x1, oR eDecl_0 (s3.1 ++ [(⟨x9.Kind, x11, x14, x12.At⟩ : Decl)]), .nils, SS x2]), (30, I64 (w64 (s3.2 + 1)))]) (.n rfl (.n rfl (.n rfl (.n rfl .nil)))) <| RunL.v (O.as (.lit rfl)) rfl rfl .none <| RunL.fin (.n rfl (.n rfl (.n rfl (.n rfl .nil))))) ?_
      obtain rfl := sm h
      exact Px.go (.n rfl (.n rfl (.n rfl (.n rfl .nil))))
    · replace h := cndF hb8 h
      refine W.xi ?_
      refine Px.sqE ?_
      obtain rfl := sm h
      exact Px.x1 (.n rfl (.n rfl (.n rfl .nil)))
  refine Px.bkH ?_
  refine Px.sq ?_
  refine W.sq' ?_
  refine W.sq' ?_
  refine W.rx [(1, _), (2, _), (3, _), (7, _)] (RunL.v (O.as (.k rfl)) rfl rfl .none <| RunL.fin (.n rfl (.n rfl (.n rfl (.n rfl .nil))))) ?_
  refine Px.sq ?_
  refine W.bk ?_
  obtain ⟨x26, hl, h⟩ := bnd h
  refine W.tr (G1 := [(1, .obj [SS a0.Pro, iR eDecl_0 a0.Decls, iR eRule_0 a0.Rules, SS a0.Tail]), (2, .obj [SS ({ data := #[] }), .nils, .nils, SS ({ data := #[] })]), (3, .obj [SS x1, oR eDecl_0 x4, oR eRule_0 ([] : List Rule), SS x2]), (7, I64 0)]) (.n rfl (.n rfl (.w rfl rfl (WkL.obj (.f (.f (.o (.f .nil))))) (.n rfl .nil)))) ?_
  refine W.lp1 (s := (([] : List Rule), 0)) (fun (s25 : List Rule × Int) => [(1, .obj [SS a0.Pro, iR eDecl_0 a0.Decls, iR eRule_0 a0.Rules, SS a0.Tail]), (2, .obj [SS ({ data := #[] }), .nils, .nils, SS ({ data := #[] })]), (3, .obj [SS x1, oR eDecl_0 x4, oR eRule_0 s25.1, SS x2]), (7, I64 s25.2)]) 4 (fun (x26 : List Rule) => [(2, .obj [SS ({ data := #[] }), .nils, .nils, SS ({ data := #[] })]), (3, .obj [SS x1, oR eDecl_0 x4, oR eRule_0 x26, SS x2])]) hl (fun s25 o h => ?_) ?_
  · clear hl
    refine W.sq' ?_
    refine W.sq' ?_
    obtain ⟨c29, hj, h⟩ := bnd h
    refine W.rx [(1, .obj [SS a0.Pro, iR eDecl_0 a0.Decls, iR eRule_0 a0.Rules, SS a0.Tail]), (2, .obj [SS ({ data := #[] }), .nils, .nils, SS ({ data := #[] })]), (3, .obj [SS x1, oR eDecl_0 x4, oR eRule_0 s25.1, SS x2]), (7, I64 s25.2), (95, BB c29)] ?_ ?_
    · refine RunL.v (O.mv (.lit rfl)) rfl rfl .none <| RunL.v (O.fO rfl (.obj rfl) fd25_2 rfl) rfl rfl .none <| RunL.v (O.ldO (y := iR eRule_0 a0.Rules) rfl (.ptr rfl) ct23 rfl rfl) rfl rfl .none <| RunL.v (O.lenI (.imm rfl) sl23) rfl rfl .none <| RunL.v (O.lss (.lit rfl) (.lit rfl)) rfl rfl .none <| RunL.v (O.mv (.lit rfl)) rfl rfl .none ?_
      rcases cnd hj with ⟨hb28, hj⟩ | ⟨hb28, hj⟩
      · obtain rfl := sm hj
        exact RunL.v (O.mv (.lit rfl)) rfl rfl (.yb rfl rfl hb28) <| RunL.v (O.lss (.lit rfl) (.k rfl)) rfl rfl (.yb rfl rfl hb28) <| RunL.v (O.pkT (.lit rfl) hb28 (.lit rfl)) rfl rfl .none <| RunL.fin (.n rfl (.n rfl (.n rfl (.n rfl (.n rfl .nil)))))
      · obtain rfl := sm hj
        exact RunL.ps rfl rfl hb28 rfl rfl <| RunL.ps rfl rfl hb28 rfl rfl <| RunL.v (O.pkF (.lit rfl) hb28 (.k rfl)) rfl rfl .none <| RunL.fin (.n rfl (.n rfl (.n rfl (.n rfl (.n rfl .nil)))))
    refine Px.sq ?_
    refine W.cnd rfl (fun hb30 => ?_) (fun hb30 => ?_)
    · replace h := cndT hb30 h
      refine W.sk ?_
      refine Px.sq ?_
      refine W.sq' ?_
      refine W.bk ?_
      refine W.sq' ?_
      obtain ⟨x31, hx31, h⟩ := bnd h
      obtain ⟨x32, hx32, h⟩ := bnd h
      obtain ⟨x33, hx33, h⟩ := bnd h
      refine W.rd [[], [0], [], [0, 1, 2], [0, 1, 2, 3], [0, 1, 2, 3, 4], [0, 1, 2, 3, 4, 5], [], [7], [], [7, 8, 9], [7, 8, 9, 10], [7, 8, 9, 10, 11], [0, 1, 2, 3, 4, 5, 6, 7, 8, 9, 10, 11, 12], [], [0, 1, 2, 3, 4, 5, 6, 7, 8, 9, 10, 11, 12, 13, 14]] [(1, _), (2, _), (3, _), (7, _), (8, _)] mixo (by kernel_rfl) (DL.v 0 (O.fO rfl (.obj rfl) fd25_2 rfl) rfl rfl rfl rfl .none <| DL.v 1 (O.ldO (y := iR eRule_0 a0.Rules) rfl (.ptr rfl) ct23 rfl rfl) rfl rfl rfl rfl .none <| DL.v 2 (O.mv (.lit rfl)) rfl rfl rfl rfl .none <| DL.v 3 (O.ixI (.imm rfl) (.lit rfl) sl23 hx31) rfl rfl rfl rfl .none <| DL.v 4 (O.fI (.iptr rfl) fd95_0) rfl rfl rfl rfl .none <| DL.v 5 (O.ldI (x := SS x31.Left) (.iptr rfl) ct9 rfl) rfl rfl rfl rfl .none <| DL.c 6 (PC.go (.cc (.lit rfl) (.cc (.k rfl) .nil)) (con27 x31.Left 25 _ hx32) call27 rfl) rfl rfl rfl rfl .none <| DL.v 7 (O.fO rfl (.obj rfl) fd25_2 rfl) rfl rfl rfl rfl .none <| DL.v 8 (O.ldO (y := iR eRule_0 a0.Rules) rfl (.ptr rfl) ct23 rfl rfl) rfl rfl rfl rfl .none <| DL.v 9 (O.mv (.lit rfl)) rfl rfl rfl rfl .none <| DL.v 10 (O.ixI (.imm rfl) (.lit rfl) sl23 hx33) rfl rfl rfl rfl .none <| DL.v 11 (O.fI (.iptr rfl) fd95_2) rfl rfl rfl rfl .none <| DL.v 12 (O.ldI (x := I64 x33.At) (.iptr rfl) ct3 rfl) rfl rfl rfl rfl .none <| DL.v 13 (O.bu (cs := [SS x32, .nils, I64 x33.At]) sc95 ze95 rfl rfl rfl) rfl rfl rfl rfl .none <| DL.v 14 (O.al (cs := [SS ({ data := #[] }), .nils, I64 0]) ze95 rfl rfl) rfl rfl rfl rfl .none <| DL.sO 15 (G2 := [(1, .obj [SS a0.Pro, iR eDecl_0 a0.Decls, iR eRule_0 a0.Rules, SS a0.Tail]), (2, .obj [SS ({ data := #[] }), .nils, .nils, SS ({ data := #[] })]), (3, .obj [SS x1, oR eDecl_0 x4, oR eRule_0 s25.1, SS x2]), (7, I64 s25.2), (8, .obj [SS x32, .nils, I64 x33.At])]) (cs2 := [SS x32, .nils, I64 x33.At]) rfl (by kernel_rfl) (by kernel_rfl) rfl rfl rfl (.obj rfl) (.aggF rfl rfl) rfl sz95 rfl rfl rfl rfl (.n rfl rfl (.n rfl rfl (.n rfl rfl (.n rfl rfl (.b rfl .nil))))) <| DL.fin rfl rfl rfl (.n rfl (.n rfl (.n rfl (.n rfl (.n rfl .nil)))))) ?_
      refine Px.sq ?_
      refine W.sq' ?_
      refine W.sq' ?_
      refine W.rx [(1, _), (2, _), (3, _), (7, _), (8, _), (9, _)] (RunL.v (O.as (.k rfl)) rfl rfl .none <| RunL.fin (.n rfl (.n rfl (.n rfl (.n rfl (.n rfl (.n rfl .nil))))))) ?_
      refine Px.sq ?_
      refine W.bk ?_
      obtain ⟨x35, hl, h⟩ := bnd h
      refine W.tr (G1 := [(1, .obj [SS a0.Pro, iR eDecl_0 a0.Decls, iR eRule_0 a0.Rules, SS a0.Tail]), (2, .obj [SS ({ data := #[] }), .nils, .nils, SS ({ data := #[] })]), (3, .obj [SS x1, oR eDecl_0 x4, oR eRule_0 s25.1, SS x2]), (7, I64 s25.2), (8, .obj [SS x32, oR eAlt_0 ([] : List Alt), I64 x33.At]), (9, I64 0)]) (.n rfl (.n rfl (.n rfl (.n rfl (.w rfl rfl (WkL.obj (.f (.o (.f .nil)))) (.n rfl .nil)))))) ?_
      refine W.lp1 (s := (([] : List Alt), 0)) (fun (s34 : List Alt × Int) => [(1, .obj [SS a0.Pro, iR eDecl_0 a0.Decls, iR eRule_0 a0.Rules, SS a0.Tail]), (2, .obj [SS ({ data := #[] }), .nils, .nils, SS ({ data := #[] })]), (3, .obj [SS x1, oR eDecl_0 x4, oR eRule_0 s25.1, SS x2]), (7, I64 s25.2), (8, .obj [SS x32, oR eAlt_0 s34.1, I64 x33.At]), (9, I64 s34.2)]) 6 (fun (x35 : List Alt) => [(1, .obj [SS a0.Pro, iR eDecl_0 a0.Decls, iR eRule_0 a0.Rules, SS a0.Tail]), (2, .obj [SS ({ data := #[] }), .nils, .nils, SS ({ data := #[] })]), (3, .obj [SS x1, oR eDecl_0 x4, oR eRule_0 s25.1, SS x2]), (7, I64 s25.2), (8, .obj [SS x32, oR eAlt_0 x35, I64 x33.At])]) hl (fun s34 o h => ?_) ?_
      · clear hl
        refine W.sq' ?_
        refine W.sq' ?_
        obtain ⟨c39, hj, h⟩ := bnd h
        refine W.rx [(1, .obj [SS a0.Pro, iR eDecl_0 a0.Decls, iR eRule_0 a0.Rules, SS a0.Tail]), (2, .obj [SS ({ data := #[] }), .nils, .nils, SS ({ data := #[] })]), (3, .obj [SS x1, oR eDecl_0 x4, oR eRule_0 s25.1, SS x2]), (7, I64 s25.2), (8, .obj [SS x32, oR eAlt_0 s34.1, I64 x33.At]), (9, I64 s34.2), (124, BB c39)] ?_ ?_
        · refine RunL.v (O.mv (.lit rfl)) rfl rfl .none <| RunL.v (O.fO rfl (.obj rfl) fd25_2 rfl) rfl rfl .none <| RunL.v (O.ldO (y := iR eRule_0 a0.Rules) rfl (.ptr rfl) ct23 rfl rfl) rfl rfl .none <| RunL.v (O.mv (.lit rfl)) rfl rfl .none ?_
          obtain ⟨x37, hx37, hj⟩ := bnd hj
          refine RunL.v (O.ixI (.imm rfl) (.lit rfl) sl23 hx37) rfl rfl .none <| RunL.v (O.fI (.iptr rfl) fd95_1) rfl rfl .none <| RunL.v (O.ldI (x := iR eAlt_0 x37.Alts) (.iptr rfl) ct93 rfl) rfl rfl .none <| RunL.v (O.lenI (.imm rfl) sl93) rfl rfl .none <| RunL.v (O.lss (.lit rfl) (.lit rfl)) rfl rfl .none <| RunL.v (O.mv (.lit rfl)) rfl rfl .none ?_
          rcases cnd hj with ⟨hb38, hj⟩ | ⟨hb38, hj⟩
          · obtain rfl := sm hj
            exact RunL.v (O.mv (.lit rfl)) rfl rfl (.yb rfl rfl hb38) <| RunL.v (O.lss (.lit rfl) (.k rfl)) rfl rfl (.yb rfl rfl hb38) <| RunL.v (O.pkT (.lit rfl) hb38 (.lit rfl)) rfl rfl .none <| RunL.fin (.n rfl (.n rfl (.n rfl (.n rfl (.n rfl (.n rfl (.n rfl .nil)))))))
          · obtain rfl := sm hj
            exact RunL.ps rfl rfl hb38 rfl rfl <| RunL.ps rfl rfl hb38 rfl rfl <| RunL.v (O.pkF (.lit rfl) hb38 (.k rfl)) rfl rfl .none <| RunL.fin (.n rfl (.n rfl (.n rfl (.n rfl (.n rfl (.n rfl (.n rfl .nil)))))))
        refine Px.sq ?_
        refine W.cnd rfl (fun hb40 => ?_) (fun hb40 => ?_)
        · replace h := cndT hb40 h
          refine W.sk ?_
          refine Px.sq ?_
          refine W.sq' ?_
          refine W.bk ?_
          refine W.sq' ?_
          obtain ⟨x41, hx41, h⟩ := bnd h
          obtain ⟨x42, hx42, h⟩ := bnd h
          obtain ⟨x43, hx43, h⟩ := bnd h
          obtain ⟨x44, hx44, h⟩ := bnd h
          obtain ⟨x45, hx45, h⟩ := bnd h
          refine W.rd [[], [0], [], [0, 1, 2], [0, 1, 2, 3], [0, 1, 2, 3, 4], [], [0, 1, 2, 3, 4, 5, 6], [0, 1, 2, 3, 4, 5, 6, 7], [0, 1, 2, 3, 4, 5, 6, 7, 8], [0, 1, 2, 3, 4, 5, 6, 7, 8, 9], [], [11], [], [11, 12, 13], [11, 12, 13, 14], [11, 12, 13, 14, 15], [], [11, 12, 13, 14, 15, 16, 17], [11, 12, 13, 14, 15, 16, 17, 18], [11, 12, 13, 14, 15, 16, 17, 18, 19], [0, 1, 2, 3, 4, 5, 6, 7, 8, 9, 10, 11, 12, 13, 14, 15, 16, 17, 18, 19, 20], [], [0, 1, 2, 3, 4, 5, 6, 7, 8, 9, 10, 11, 12, 13, 14, 15, 16, 17, 18, 19, 20, 21, 22]] [(1, _), (2, _), (3, _), (7, _), (8, _), (9, _), (10, _)] mixo (by kernel_rfl) (DL.v 0 (O.fO rfl (.obj rfl) fd25_2 rfl) rfl rfl rfl rfl .none <| DL.v 1 (O.ldO (y := iR eRule_0 a0.Rules) rfl (.ptr rfl) ct23 rfl rfl) rfl rfl rfl rfl .none <| DL.v 2 (O.mv (.lit rfl)) rfl rfl rfl rfl .none <| DL.v 3 (O.ixI (.imm rfl) (.lit rfl) sl23 hx41) rfl rfl rfl rfl .none <| DL.v 4 (O.fI (.iptr rfl) fd95_1) rfl rfl rfl rfl .none <| DL.v 5 (O.ldI (x := iR eAlt_0 x41.Alts) (.iptr rfl) ct93 rfl) rfl rfl rfl rfl .none <| DL.v 6 (O.mv (.lit rfl)) rfl rfl rfl rfl .none <| DL.v 7 (O.ixI (.imm rfl) (.lit rfl) sl93 hx42) rfl rfl rfl rfl .none <| DL.v 8 (O.fI (.iptr rfl) fd98_1) rfl rfl rfl rfl .none <| DL.v 9 (O.ldIN (cs' := [SS x42.Prec.Name, BB x42.Prec.Lit, I64 x42.Prec.Num, I64 x42.Prec.At]) (.iptr rfl) at91 rfl rfl) rfl rfl rfl rfl .none <| DL.c 10 (PC.go (.cc (.aggF rfl rfl) .nil) (con45 x42.Prec _ hx43) call45 rfl) rfl rfl rfl rfl .none <| DL.v 11 (O.fO rfl (.obj rfl) fd25_2 rfl) rfl rfl rfl rfl .none <| DL.v 12 (O.ldO (y := iR eRule_0 a0.Rules) rfl (.ptr rfl) ct23 rfl rfl) rfl rfl rfl rfl .none <| DL.v 13 (O.mv (.lit rfl)) rfl rfl rfl rfl .none <| DL.v 14 (O.ixI (.imm rfl) (.lit rfl) sl23 hx44) rfl rfl rfl rfl .none <| DL.v 15 (O.fI (.iptr rfl) fd95_1) rfl rfl rfl rfl .none <| DL.v 16 (O.ldI (x := iR eAlt_0 x44.Alts) (.iptr rfl) ct93 rfl) rfl rfl rfl rfl .none <| DL.v 17 (O.mv (.lit rfl)) rfl rfl rfl rfl .none <| DL.v 18 (O.ixI (.imm rfl) (.lit rfl) sl93 hx45) rfl rfl rfl rfl .none <| DL.v 19 (O.fI (.iptr rfl) fd98_2) rfl rfl rfl rfl .none <| DL.v 20 (O.ldI (x := I64 x45.At) (.iptr rfl) ct3 rfl) rfl rfl rfl rfl .none <| DL.v 21 (O.bu (cs := [.nils, SS x43.Name, BB x43.Lit, I64 x43.Num, I64 x43.At, I64 x45.At]) sc98 ze98 rfl rfl rfl) rfl rfl rfl rfl .none <| DL.v 22 (O.al (cs := [.nils, SS ({ data := #[] }), BB false, I64 0, I64 0, I64 0]) ze98 rfl rfl) rfl rfl rfl rfl .none <| DL.sO 23 (G2 := [(1, .obj [SS a0.Pro, iR eDecl_0 a0.Decls, iR eRule_0 a0.Rules, SS a0.Tail]), (2, .obj [SS ({ data := #[] }), .nils, .nils, SS ({ data := #[] })]), (3, .obj [SS x1, oR eDecl_0 x4, oR eRule_0 s25.1, SS x2]), (7, I64 s25.2), (8, .obj [SS x32, oR eAlt_0 s34.1, I64 x33.At]), (9, I64 s34.2), (10, .obj [.nils, SS x43.Name, BB x43.Lit, I64 x43.Num, I64 x43.At, I64 x45.At])]) (cs2 := [.nils, SS x43.Name, BB x43.Lit, I64 x43.Num, I64 x43.At, I64 x45.At]) rfl (by kernel_rfl) (by kernel_rfl) rfl rfl rfl (.obj rfl) (.aggF rfl rfl) rfl sz98 rfl rfl rfl rfl (.n rfl rfl (.n rfl rfl (.n rfl rfl (.n rfl rfl (.n rfl rfl (.n rfl rfl (.b rfl .nil))))))) <| DL.fin rfl rfl rfl (.n rfl (.n rfl (.n rfl (.n rfl (.n rfl (.n rfl (.n rfl .nil)))))))) ?_
          refine Px.sq ?_
          refine W.sq' ?_
          refine W.sq' ?_
          refine W.rx [(1, _), (2, _), (3, _), (7, _), (8, _), (9, _), (10, _), (11, _)] (RunL.v (O.as (.k rfl)) rfl rfl .none <| RunL.fin (.n rfl (.n rfl (.n rfl (.n rfl (.n rfl (.n rfl (.n rfl (.n rfl .nil))))))))) ?_
          refine Px.sq ?_
          refine W.bk ?_
          obtain ⟨x47, hl, h⟩ := bnd h
          refine W.tr (G1 := [(1, .obj [SS a0.Pro, iR eDecl_0 a0.Decls, iR eRule_0 a0.Rules, SS a0.Tail]), (2, .obj [SS ({ data := #[] }), .nils, .nils, SS ({ data := #[] })]), (3, .obj [SS x1, oR eDecl_0 x4, oR eRule_0 s25.1, SS x2]), (7, I64 s25.2), (8, .obj [SS x32, oR eAlt_0 s34.1, I64 x33.At]), (9, I64 s34.2), (10, .obj [oR ePart ([] : List Part), SS x43.Name, BB x43.Lit, I64 x43.Num, I64 x43.At, I64 x45.At]), (11, I64 0)]) (.n rfl (.n rfl (.n rfl (.n rfl (.n rfl (.n rfl (.w rfl rfl (WkL.obj (.o (.f (.f (.f (.f (.f .nil))))))) (.n rfl .nil)))))))) ?_
          refine W.lp1 (s := (([] : List Part), 0)) (fun (s46 : List Part × Int) => [(1, .obj [SS a0.Pro, iR eDecl_0 a0.Decls, iR eRule_0 a0.Rules, SS a0.Tail]), (2, .obj [SS ({ data := #[] }), .nils, .nils, SS ({ data := #[] })]), (3, .obj [SS x1, oR eDecl_0 x4, oR eRule_0 s25.1, SS x2]), (7, I64 s25.2), (8, .obj [SS x32, oR eAlt_0 s34.1, I64 x33.At]), (9, I64 s34.2), (10, .obj [oR ePart s46.1, SS x43.Name, BB x43.Lit, I64 x43.Num, I64 x43.At, I64 x45.At]), (11, I64 s46.2)]) 8 (fun (x47 : List Part) => [(1, .obj [SS a0.Pro, iR eDecl_0 a0.Decls, iR eRule_0 a0.Rules, SS a0.Tail]), (2, .obj [SS ({ data := #[] }), .nils, .nils, SS ({ data := #[] })]), (3, .obj [SS x1, oR eDecl_0 x4, oR eRule_0 s25.1, SS x2]), (7, I64 s25.2), (8, .obj [SS x32, oR eAlt_0 s34.1, I64 x33.At]), (9, I64 s34.2), (10, .obj [oR ePart x47, SS x43.Name, BB x43.Lit, I64 x43.Num, I64 x43.At, I64 x45.At])]) hl (fun s46 o h => ?_) ?_
          · clear hl
            refine W.sq' ?_
            refine W.sq' ?_
            obtain ⟨c52, hj, h⟩ := bnd h
            refine W.rx [(1, .obj [SS a0.Pro, iR eDecl_0 a0.Decls, iR eRule_0 a0.Rules, SS a0.Tail]), (2, .obj [SS ({ data := #[] }), .nils, .nils, SS ({ data := #[] })]), (3, .obj [SS x1, oR eDecl_0 x4, oR eRule_0 s25.1, SS x2]), (7, I64 s25.2), (8, .obj [SS x32, oR eAlt_0 s34.1, I64 x33.At]), (9, I64 s34.2), (10, .obj [oR ePart s46.1, SS x43.Name, BB x43.Lit, I64 x43.Num, I64 x43.At, I64 x45.At]), (11, I64 s46.2), (165, BB c52)] ?_ ?_
            · refine RunL.v (O.mv (.lit rfl)) rfl rfl .none <| RunL.v (O.fO rfl (.obj rfl) fd25_2 rfl) rfl rfl .none <| RunL.v (O.ldO (y := iR eRule_0 a0.Rules) rfl (.ptr rfl) ct23 rfl rfl) rfl rfl .none <| RunL.v (O.mv (.lit rfl)) rfl rfl .none ?_
              obtain ⟨x49, hx49, hj⟩ := bnd hj
              refine RunL.v (O.ixI (.imm rfl) (.lit rfl) sl23 hx49) rfl rfl .none <| RunL.v (O.fI (.iptr rfl) fd95_1) rfl rfl .none <| RunL.v (O.ldI (x := iR eAlt_0 x49.Alts) (.iptr rfl) ct93 rfl) rfl rfl .none <| RunL.v (O.mv (.lit rfl)) rfl rfl .none ?_
              obtain ⟨x50, hx50, hj⟩ := bnd hj
              refine RunL.v (O.ixI (.imm rfl) (.lit rfl) sl93 hx50) rfl rfl .none <| RunL.v (O.fI (.iptr rfl) fd98_0) rfl rfl .none <| RunL.v (O.ldI (x := iR ePart x50.Parts) (.iptr rfl) ct96 rfl) rfl rfl .none <| RunL.v (O.lenI (.imm rfl) sl96) rfl rfl .none <| RunL.v (O.lss (.lit rfl) (.lit rfl)) rfl rfl .none <| RunL.v (O.mv (.lit rfl)) rfl rfl .none ?_
              rcases cnd hj with ⟨hb51, hj⟩ | ⟨hb51, hj⟩
              · obtain rfl := sm hj
                exact RunL.v (O.mv (.lit rfl)) rfl rfl (.yb rfl rfl hb51) <| RunL.v (O.lss (.lit rfl) (.k rfl)) rfl rfl (.yb rfl rfl hb51) <| RunL.v (O.pkT (.lit rfl) hb51 (.lit rfl)) rfl rfl .none <| RunL.fin (.n rfl (.n rfl (.n rfl (.n rfl (.n rfl (.n rfl (.n rfl (.n rfl (.n rfl .nil)))))))))
              · obtain rfl := sm hj
                exact RunL.ps rfl rfl hb51 rfl rfl <| RunL.ps rfl rfl hb51 rfl rfl <| RunL.v (O.pkF (.lit rfl) hb51 (.k rfl)) rfl rfl .none <| RunL.fin (.n rfl (.n rfl (.n rfl (.n rfl (.n rfl (.n rfl (.n rfl (.n rfl (.n rfl .nil)))))))))
            refine Px.sq ?_
            refine W.cnd rfl (fun hb53 => ?_) (fun hb53 => ?_)
            · replace h := cndT hb53 h
              refine W.sk ?_
              refine Px.sq ?_
              refine W.sq' ?_
              refine W.bk ?_
              refine W.sq' ?_
              obtain ⟨x54, hx54, h⟩ := bnd h
              obtain ⟨x55, hx55, h⟩ := bnd h
              obtain ⟨x56, hx56, h⟩ := bnd h
              refine W.rx [(1, _), (2, _), (3, _), (7, _), (8, _), (9, _), (10, _), (11, _), (12, _)] (RunL.v (O.fO rfl (.obj rfl) fd25_2 rfl) rfl rfl .none <| RunL.v (O.ldO (y := iR eRule_0 a0.Rules) rfl (.ptr rfl) ct23 rfl rfl) rfl rfl .none <| RunL.v (O.mv (.lit rfl)) rfl rfl .none <| RunL.v (O.ixI (.imm rfl) (.lit rfl) sl23 hx54) rfl rfl .none <| RunL.v (O.fI (.iptr rfl) fd95_1) rfl rfl .none <| RunL.v (O.ldI (x := iR eAlt_0 x54.Alts) (.iptr rfl) ct93 rfl) rfl rfl .none <| RunL.v (O.mv (.lit rfl)) rfl rfl .none <| RunL.v (O.ixI (.imm rfl) (.lit rfl) sl93 hx55) rfl rfl .none <| RunL.v (O.fI (.iptr rfl) fd98_0) rfl rfl .none <| RunL.v (O.ldI (x := iR ePart x55.Parts) (.iptr rfl) ct96 rfl) rfl rfl .none <| RunL.v (O.mv (.lit rfl)) rfl rfl .none <| RunL.v (O.ixI (.imm rfl) (.lit rfl) sl96 hx56) rfl rfl .none <| RunL.v (O.ldIN (cs' := [SS x56.Sym.Name, BB x56.Sym.Lit, I64 x56.Sym.Num, I64 x56.Sym.At, SS x56.Code, I64 x56.At]) (.iptr rfl) at100 rfl rfl) rfl rfl .none <| RunL.v (O.al (cs := [SS ({ data := #[] }), BB false, I64 0, I64 0, SS ({ data := #[] }), I64 0]) ze100 rfl rfl) rfl rfl .none <| RunL.sO (G2 := [(1, .obj [SS a0.Pro, iR eDecl_0 a0.Decls, iR eRule_0 a0.Rules, SS a0.Tail]), (2, .obj [SS ({ data := #[] }), .nils, .nils, SS ({ data := #[] })]), (3, .obj [SS x1, oR eDecl_0 x4, oR eRule_0 s25.1, SS x2]), (7, I64 s25.2), (8, .obj [SS x32, oR eAlt_0 s34.1, I64 x33.At]), (9, I64 s34.2), (10, .obj [oR ePart s46.1, SS x43.Name, BB x43.Lit, I64 x43.Num, I64 x43.At, I64 x45.At]), (11, I64 s46.2), (12, .obj [SS x56.Sym.Name, BB x56.Sym.Lit, I64 x56.Sym.Num, I64 x56.Sym.At, SS x56.Code, I64 x56.At])]) (cs2 := [SS x56.Sym.Name, BB x56.Sym.Lit, I64 x56.Sym.Num, I64 x56.Sym.At, SS x56.Code, I64 x56.At]) rfl (.obj rfl) (.aggF rfl rfl) rfl sz100 rfl rfl rfl rfl (.n rfl rfl (.n rfl rfl (.n rfl rfl (.n rfl rfl (.n rfl rfl (.n rfl rfl (.n rfl rfl (.n rfl rfl (.b rfl .nil))))))))) <| RunL.fin (.n rfl (.n rfl (.n rfl (.n rfl (.n rfl (.n rfl (.n rfl (.n rfl (.n rfl .nil)))))))))) ?_
              refine Px.sq ?_
              obtain ⟨x57, hx57, h⟩ := bnd h
              obtain ⟨x58, hx58, h⟩ := bnd h
              obtain ⟨x59, hx59, h⟩ := bnd h
              refine W.rd [[], [0], [], [2], [2, 3], [], [5], [2, 3, 4, 5, 6], [], [8], [2, 3, 4, 5, 6, 7, 8, 9], [2, 3, 4, 5, 6, 7, 8, 9, 10], [0, 1, 2, 3, 4, 5, 6, 7, 8, 9, 10, 11], [0, 1, 2, 3, 4, 5, 6, 7, 8, 9, 10, 11, 12], [0, 1, 2, 3, 4, 5, 6, 7, 8, 9, 10, 11, 12, 13]] [(1, _), (2, _), (3, _), (7, _), (8, _), (9, _), (10, _), (11, _)] mixo (by kernel_rfl) (DL.v 0 (O.fO rfl (.obj rfl) fd98_0 rfl) rfl rfl rfl rfl .none <| DL.v 1 (O.ldO (y := .brw ePart.z ⟨10, [0]⟩ s46.1.length) rfl (.ptr rfl) ct96 rfl rfl) rfl rfl rfl rfl .none <| DL.v 2 (O.fO rfl (.obj rfl) fd100_0 rfl) rfl rfl rfl rfl .none <| DL.v 3 (O.ldON (cs' := [SS x56.Sym.Name, BB x56.Sym.Lit, I64 x56.Sym.Num, I64 x56.Sym.At]) rfl (.ptr rfl) at91 rfl rfl) rfl rfl rfl rfl .none <| DL.c 4 (PC.go (.cc (.aggF rfl rfl) .nil) (con45 x56.Sym _ hx57) call45 rfl) rfl rfl rfl rfl .none <| DL.v 5 (O.fO rfl (.obj rfl) fd100_1 rfl) rfl rfl rfl rfl .none <| DL.v 6 (O.ldO (y := SS x56.Code) rfl (.ptr rfl) ct9 rfl rfl) rfl rfl rfl rfl .none <| DL.c 7 (PC.go (.cc (.lit rfl) (.cc (.k rfl) .nil)) (con27 x56.Code 60 _ hx58) call27 rfl) rfl rfl rfl rfl .none <| DL.v 8 (O.fO rfl (.obj rfl) fd100_2 rfl) rfl rfl rfl rfl .none <| DL.v 9 (O.ldO (y := I64 x56.At) rfl (.ptr rfl) ct3 rfl rfl) rfl rfl rfl rfl .none <| DL.v 10 (O.bu (cs := [SS x57.Name, BB x57.Lit, I64 x57.Num, I64 x57.At, SS x58, I64 x56.At]) sc100 ze100 rfl rfl rfl) rfl rfl rfl rfl .none <| DL.vi 11 (x := iR ePart [(⟨x57, x58, x56.At⟩ : Part)]) (O.bs (ys := [.agg [SS x57.Name, BB x57.Lit, I64 x57.Num, I64 x57.At, SS x58, I64 x56.At]]) ePart [(⟨x57, x58, x56.At⟩ : Part)] sl96 rfl rfl rfl rfl rfl rfl zt100 rfl rfl) rfl rfl rfl rfl .none <| DL.v 12 (O.ap (en := ePart) (r := x59) (.brw rfl) rfl (.imm rfl) .i ap96 rfl hx59) rfl rfl rfl rfl .none <| DL.v 13 (O.fO rfl (.obj rfl) fd98_0 rfl) rfl rfl rfl rfl .none <| DL.bp 14 (G2 := [(1, .obj [SS a0.Pro, iR eDecl_0 a0.Decls, iR eRule_0 a0.Rules, SS a0.Tail]), (2, .obj [SS ({ data := #[] }), .nils, .nils, SS ({ data := #[] })]), (3, .obj [SS x1, oR eDecl_0 x4, oR eRule_0 s25.1, SS x2]), (7, I64 s25.2), (8, .obj [SS x32, oR eAlt_0 s34.1, I64 x33.At]), (9, I64 s34.2), (10, .obj [oR ePart (s46.1 ++ [(⟨x57, x58, x56.At⟩ : Part)]), SS x43.Name, BB x43.Lit, I64 x43.Num, I64 x43.At, I64 x45.At]), (11, I64 s46.2)]) (EO.stP (g1 := _) (en := ePart) (M := [(⟨x57, x58, x56.At⟩ : Part)]) (cs2 := [oR ePart (s46.1 ++ [(⟨x57, x58, x56.At⟩ : Part)]), SS x43.Name, BB x43.Lit, I64 x43.Num, I64 x43.At, I64 x45.At]) rfl rfl (.ptr rfl) (.pend rfl) rfl rfl rfl .ns .rf rfl rfl sz96 rfl rfl rfl rfl (.n rfl rfl (.n rfl rfl (.n rfl rfl (.n rfl rfl (.n rfl rfl (.n rfl rfl (.b rfl (.n rfl rfl .nil))))))))) rfl rfl rfl rfl (by kernel_rfl) (by kernel_rfl) <| DL.fin rfl rfl rfl (.n rfl (.n rfl (.n rfl (.n rfl (.n rfl (.n rfl (.n rfl (.n rfl .nil))))))))) ?_
              refine Px.bk ?_
              refine Px.sq ?_
              refine W.rx [(1, _), (2, _), (3, _), (7, _), (8, _), (9, _), (10, _), (11, _)] (RunL.v (O.mv (.lit rfl)) rfl rfl .none <| RunL.v (O.add (.lit rfl) (.k rfl)) rfl rfl .none <| RunL.re (G1 := [(1, .obj [SS a0.Pro, iR eDecl_0 a0.Decls, iR eRule_0 a0.Rules, SS a0.Tail]), (2, .obj [SS ({ data := #[] }), .nils, .nils, SS ({ data := #[] })]), (3, .obj [SS x1, oR eDecl_0 x4, oR eRule_0 s25.1, SS x2]), (7, I64 s25.2), (8, .obj [SS x32, oR eAlt_0 s34.1, I64 x33.At]), (9, I64 s34.2), (10, .obj [oR ePart (s46.1 ++ [(⟨x57, x58, x56.At⟩ : Part)]), SS x43.Name, BB x43.Lit, I64 x43.Num, I64 x43.At, I64 x45.At]), (167, I64 (w64 (s46.2 + 1)))]) (.n rfl (.n rfl (.n rfl (.n rfl (.n rfl (.n rfl (.n rfl (.n rfl .nil)))))))) <| RunL.v (O.as (.lit rfl)) rfl rfl .none <| RunL.fin (.n rfl (.n rfl (.n rfl (.n rfl (.n rfl (.n rfl (.n rfl (.n rfl .nil))))))))) ?_
              obtain rfl := sm h
              exact Px.go (.n rfl (.n rfl (.n rfl (.n rfl (.n rfl (.n rfl (.n rfl (.n rfl .nil))))))))
            · replace h := cndF hb53 h
              refine W.xi ?_
              refine Px.sqE ?_
              obtain rfl := sm h
              exact Px.x1 (.n rfl (.n rfl (.n rfl (.n rfl (.n rfl (.n rfl (.n rfl .nil)))))))
          refine Px.bkH ?_
          refine Px.sq ?_
          refine W.fz (G1 := [(1, .obj [SS a0.Pro, iR eDecl_0 a0.Decls, iR eRule_0 a0.Rules, SS a0.Tail]), (2, .obj [SS ({ data := #[] }), .nils, .nils, SS ({ data := #[] })]), (3, .obj [SS x1, oR eDecl_0 x4, oR eRule_0 s25.1, SS x2]), (7, I64 s25.2), (8, .obj [SS x32, oR eAlt_0 s34.1, I64 x33.At]), (9, I64 s34.2), (10, .obj [iR ePart x47, SS x43.Name, BB x43.Lit, I64 x43.Num, I64 x43.At, I64 x45.At])]) [10] (.n rfl rfl (.n rfl rfl (.n rfl rfl (.n rfl rfl (.n rfl rfl (.n rfl rfl (.z rfl rfl (FzL.obj (.z (.f (.f (.f (.f (.f .nil))))))) .nil))))))) ?_
          obtain ⟨x60, hx60, h⟩ := bnd h
          refine W.rx [(1, _), (2, _), (3, _), (7, _), (8, _), (9, _)] (RunL.v (O.fO rfl (.obj rfl) fd95_1 rfl) rfl rfl .none <| RunL.v (O.ldO (y := .brw eAlt_0.z ⟨8, [1]⟩ s34.1.length) rfl (.ptr rfl) ct93 rfl rfl) rfl rfl .none <| RunL.v (O.ldON (cs' := [iR ePart x47, SS x43.Name, BB x43.Lit, I64 x43.Num, I64 x43.At, I64 x45.At]) rfl (.obj rfl) at98 rfl rfl) rfl rfl .none <| RunL.vi (x := iR eAlt_0 [(⟨x47, x43, x45.At⟩ : Alt)]) (O.bs (ys := [.agg [iR ePart x47, SS x43.Name, BB x43.Lit, I64 x43.Num, I64 x43.At, I64 x45.At]]) eAlt_0 [(⟨x47, x43, x45.At⟩ : Alt)] sl93 rfl rfl rfl rfl rfl rfl zt98 rfl rfl) rfl rfl .none <| RunL.v (O.ap (en := eAlt_0) (r := x60) (.brw rfl) rfl (.imm rfl) .i ap93 rfl hx60) rfl rfl .none <| RunL.v (O.fO rfl (.obj rfl) fd95_1 rfl) rfl rfl .none <| RunL.ef (G2 := [(1, .obj [SS a0.Pro, iR eDecl_0 a0.Decls, iR eRule_0 a0.Rules, SS a0.Tail]), (2, .obj [SS ({ data := #[] }), .nils, .nils, SS ({ data := #[] })]), (3, .obj [SS x1, oR eDecl_0 x4, oR eRule_0 s25.1, SS x2]), (7, I64 s25.2), (8, .obj [SS x32, oR eAlt_0 (s34.1 ++ [(⟨x47, x43, x45.At⟩ : Alt)]), I64 x33.At]), (9, I64 s34.2)]) rfl (EO.stP (g1 := _) (en := eAlt_0) (M := [(⟨x47, x43, x45.At⟩ : Alt)]) (cs2 := [SS x32, oR eAlt_0 (s34.1 ++ [(⟨x47, x43, x45.At⟩ : Alt)]), I64 x33.At]) rfl rfl (.ptr rfl) (.pend rfl) rfl rfl rfl .ns .rf rfl rfl sz93 rfl rfl rfl rfl (.n rfl rfl (.n rfl rfl (.n rfl rfl (.n rfl rfl (.b rfl (.n rfl rfl .nil))))))) <| RunL.fin (.n rfl (.n rfl (.n rfl (.n rfl (.n rfl (.n rfl .nil))))))) ?_
          refine Px.bk ?_
          refine Px.sq ?_
          refine W.rx [(1, _), (2, _), (3, _), (7, _), (8, _), (9, _)] (RunL.v (O.mv (.lit rfl)) rfl rfl .none <| RunL.v (O.add (.lit rfl) (.k rfl)) rfl rfl .none <| RunL.re (G1 := [(1, .obj [SS a0.Pro, iR eDecl_0 a0.Decls, iR eRule_0 a0.Rules, SS a0.Tail]), (2, .obj [SS ({ data := #[] }), .nils, .nils, SS ({ data := #[] })]), (3, .obj [SS x1, oR eDecl_0 x4, oR eRule_0 s25.1, SS x2]), (7, I64 s25.2), (8, .obj [SS x32, oR eAlt_0 (s34.1 ++ [(⟨x47, x43, x45.At⟩ : Alt)]), I64 x33.At]), (126, I64 (w64 (s34.2 + 1)))]) (.n rfl (.n rfl (.n rfl (.n rfl (.n rfl (.n rfl .nil)))))) <| RunL.v (O.as (.lit rfl)) rfl rfl .none <| RunL.fin (.n rfl (.n rfl (.n rfl (.n rfl (.n rfl (.n rfl .nil))))))) ?_
          obtain rfl := sm h
          exact Px.go (.n rfl (.n rfl (.n rfl (.n rfl (.n rfl (.n rfl .nil))))))
        · replace h := cndF hb40 h
          refine W.xi ?_
          refine Px.sqE ?_
          obtain rfl := sm h
          exact Px.x1 (.n rfl (.n rfl (.n rfl (.n rfl (.n rfl .nil)))))
      refine Px.bkH ?_
      refine Px.sq ?_
      refine W.fz (G1 := [(1, .obj [SS a0.Pro, iR eDecl_0 a0.Decls, iR eRule_0 a0.Rules, SS a0.Tail]), (2, .obj [SS ({ data := #[] }), .nils, .nils, SS ({ data := #[] })]), (3, .obj [SS x1, oR eDecl_0 x4, oR eRule_0 s25.1, SS x2]), (7, I64 s25.2), (8, .obj [SS x32, iR eAlt_0 x35, I64 x33.At])]) [8] (.n rfl rfl (.n rfl rfl (.n rfl rfl (.n rfl rfl (.z rfl rfl (FzL.obj (.f (.z (.f .nil)))) .nil))))) ?_
      obtain ⟨x61, hx61, h⟩ := bnd h
      refine W.rx [(1, _), (2, _), (3, _), (7, _)] (RunL.v (O.fO rfl (.obj rfl) fd25_2 rfl) rfl rfl .none <| RunL.v (O.ldO (y := .brw eRule_0.z ⟨3, [2]⟩ s25.1.length) rfl (.ptr rfl) ct23 rfl rfl) rfl rfl .none <| RunL.v (O.ldON (cs' := [SS x32, iR eAlt_0 x35, I64 x33.At]) rfl (.obj rfl) at95 rfl rfl) rfl rfl .none <| RunL.vi (x := iR eRule_0 [(⟨x32, x35, x33.At⟩ : Rule)]) (O.bs (ys := [.agg [SS x32, iR eAlt_0 x35, I64 x33.At]]) eRule_0 [(⟨x32, x35, x33.At⟩ : Rule)] sl23 rfl rfl rfl rfl rfl rfl zt95 rfl rfl) rfl rfl .none <| RunL.v (O.ap (en := eRule_0) (r := x61) (.brw rfl) rfl (.imm rfl) .i ap23 rfl hx61) rfl rfl .none <| RunL.v (O.fO rfl (.obj rfl) fd25_2 rfl) rfl rfl .none <| RunL.ef (G2 := [(1, .obj [SS a0.Pro, iR eDecl_0 a0.Decls, iR eRule_0 a0.Rules, SS a0.Tail]), (2, .obj [SS ({ data := #[] }), .nils, .nils, SS ({ data := #[] })]), (3, .obj [SS x1, oR eDecl_0 x4, oR eRule_0 (s25.1 ++ [(⟨x32, x35, x33.At⟩ : Rule)]), SS x2]), (7, I64 s25.2)]) rfl (EO.stP (g1 := _) (en := eRule_0) (M := [(⟨x32, x35, x33.At⟩ : Rule)]) (cs2 := [SS x1, oR eDecl_0 x4, oR eRule_0 (s25.1 ++ [(⟨x32, x35, x33.At⟩ : Rule)]), SS x2]) rfl rfl (.ptr rfl) (.pend rfl) rfl rfl rfl .ns .rf rfl rfl sz23 rfl rfl rfl rfl (.n rfl rfl (.n rfl rfl (.b rfl (.n rfl rfl .nil))))) <| RunL.fin (.n rfl (.n rfl (.n rfl (.n rfl .nil))))) ?_
      refine Px.bk ?_
      refine Px.sq ?_
      refine W.rx [(1, _), (2, _), (3, _), (7, _)] (RunL.v (O.mv (.lit rfl)) rfl rfl .none <| RunL.v (O.add (.lit rfl) (.k rfl)) rfl rfl .none <| RunL.re (G1 := [(1, .obj [SS a0.Pro, iR eDecl_0 a0.Decls, iR eRule_0 a0.Rules, SS a0.Tail]), (2, .obj [SS ({ data := #[] }), .nils, .nils, SS ({ data := #[] })]), (3, .obj [SS x1, oR eDecl_0 x4, oR eRule_0 (s25.1 ++ [(⟨x32, x35, x33.At⟩ : Rule)]), SS x2]), (97, I64 (w64 (s25.2 + 1)))]) (.n rfl (.n rfl (.n rfl (.n rfl .nil)))) <| RunL.v (O.as (.lit rfl)) rfl rfl .none <| RunL.fin (.n rfl (.n rfl (.n rfl (.n rfl .nil))))) ?_
      obtain rfl := sm h
      exact Px.go (.n rfl (.n rfl (.n rfl (.n rfl .nil))))
    · replace h := cndF hb30 h
      refine W.xi ?_
      refine Px.sqE ?_
      obtain rfl := sm h
      exact Px.x1 (.n rfl (.n rfl .nil))
  refine Px.bkH ?_
  refine Px.sq ?_
  refine W.sq' ?_
  refine W.fz (G1 := [(2, .obj [SS ({ data := #[] }), .nils, .nils, SS ({ data := #[] })]), (3, .obj [SS x1, iR eDecl_0 x4, iR eRule_0 x26, SS x2])]) [3] (.n rfl rfl (.z rfl rfl (FzL.obj (.f (.z (.z (.f .nil))))) .nil)) ?_
  refine W.rx [(2, _)] (RunL.v (O.ldON (cs' := [SS x1, iR eDecl_0 x4, iR eRule_0 x26, SS x2]) rfl (.obj rfl) at25 rfl rfl) rfl rfl .none <| RunL.sO (G2 := [(2, .obj [SS x1, iR eDecl_0 x4, iR eRule_0 x26, SS x2])]) (cs2 := [SS x1, iR eDecl_0 x4, iR eRule_0 x26, SS x2]) rfl (.obj rfl) (.aggF rfl rfl) rfl sz25 rfl rfl rfl rfl (.b rfl .nil) <| RunL.fin (.n rfl .nil)) ?_
  refine Px.sq ?_
  refine W.rt ?_
  obtain rfl := sm h
  exact Px.fin (Fin.ro (.c (ys0 := [SS x1, iR eDecl_0 x4, iR eRule_0 x26, SS x2]) rfl at25 rfl rfl rfl (.f rfl (.f rfl (.f rfl (.f rfl .nil)))) .nil) rfl (of_decide_eq_true (by kernel_rfl)) (.no .nil) rfl (.inr rfl))
def pf62  : Option (ByteArray) :=
 some ({ data := #[112, 113, 114, 115] })
theorem con62  (r : ByteArray) (h : pf62  = some r) : Con Try.prog 62 [] [] (SS r) := by
  unfold pf62 at h
  refine Con.go (N := ⟨1, []⟩) Try.func62 rfl rfl rfl rfl (W.fin ?_)
  refine W.st [] ?_
  refine W.sq' ?_
  refine W.rx [] (RunL.v (O.as (.k rfl)) rfl rfl .none <| RunL.fin .nil) ?_
  refine Px.sq ?_
  refine W.sq' ?_
  refine W.rx [(0, _)] (RunL.v (O.as (.k rfl)) rfl rfl .none <| RunL.fin (.n rfl .nil)) ?_
  refine Px.sq ?_
  refine W.rt ?_
  obtain rfl := sm h
  exact Px.fin (Fin.ro (.f rfl rfl .nil) rfl (of_decide_eq_true (by kernel_rfl)) .nil rfl (.inr rfl))
def pf49 (a0 : Int) : Option (Sym) :=
 (pf62 ).bind fun x1 =>
 (remO a0 4).bind fun x2 =>
 (remO a0 4).bind fun x3 =>
 (cutO x1 x2 (w64 (x3 + 1))).bind fun x4 =>
 some (⟨x4, true, 0, 0⟩ : Sym)
theorem con49 (a0 : Int) (r : Sym) (h : pf49 a0 = some r) : Con Try.prog 49 [I64 a0] [none] (.agg [SS r.Name, BB r.Lit, I64 r.Num, I64 r.At]) := by
  unfold pf49 at h
  refine Con.go (N := ⟨11, []⟩) Try.func49 rfl rfl rfl rfl (W.fin ?_)
  refine W.st [(0, I64 a0)] ?_
  refine W.sq' ?_
  refine W.rx [(0, _), (2, _)] (RunL.v (O.al (cs := [SS ({ data := #[] }), BB false, I64 0, I64 0]) ze91 rfl rfl) rfl rfl .none <| RunL.fin (.n rfl (.n rfl .nil))) ?_
  refine Px.sq ?_
  refine W.sq' ?_
  obtain ⟨x1, hx1, h⟩ := bnd h
  obtain ⟨x2, hx2, h⟩ := bnd h
  obtain ⟨x3, hx3, h⟩ := bnd h
  obtain ⟨x4, hx4, h⟩ := bnd h
  refine W.rx [(2, _)] (RunL.c (PC.go .nil (con62  _ hx1) call62 rfl) rfl rfl .none <| RunL.v (O.mv (.lit rfl)) rfl rfl .none <| RunL.v (O.rem (.lit rfl) (.k rfl) hx2) rfl rfl .none <| RunL.v (O.mv (.lit rfl)) rfl rfl .none <| RunL.v (O.rem (.lit rfl) (.k rfl) hx3) rfl rfl .none <| RunL.v (O.add (.lit rfl) (.k rfl)) rfl rfl .none <| RunL.v (O.sl (.lit rfl) (.lit rfl) (.lit rfl) st9 hx4) rfl rfl .none <| RunL.v (O.bu (cs := [SS x4, BB true, I64 0, I64 0]) sc91 ze91 rfl rfl rfl) rfl rfl .none <| RunL.sO (G2 := [(2, .obj [SS x4, BB true, I64 0, I64 0])]) (cs2 := [SS x4, BB true, I64 0, I64 0]) rfl (.obj rfl) (.aggF rfl rfl) rfl sz91 rfl rfl rfl rfl (.b rfl .nil) <| RunL.fin (.n rfl .nil)) ?_
  refine Px.sq ?_
  refine W.rt ?_
  obtain rfl := sm h
  exact Px.fin (Fin.ro (.c (ys0 := [SS x4, BB true, I64 0, I64 0]) rfl at91 rfl rfl rfl (.f rfl (.f rfl (.f rfl (.f rfl .nil)))) .nil) rfl (of_decide_eq_true (by kernel_rfl)) (.no .nil) rfl (.inr rfl))
def eDecl_1 : En Decl := ⟨4, fun x => [I64 x.Kind, SS x.Tag, oR eSym x.Syms, I64 x.At], fun _ => rfl, fun _ => NRl.nr⟩
instance : Tw eDecl_1 eDecl_0 := ⟨rfl, fun x => (inferInstance : Vws [I64 x.Kind, SS x.Tag, oR eSym x.Syms, I64 x.At] [I64 x.Kind, SS x.Tag, iR eSym x.Syms, I64 x.At])⟩
def pf46 (a0 : (List Int)) : Option ((List Decl)) :=
 (loopM (R := List Decl) (fun (s1 : List Decl × Int) =>
 ((bif decide (s1.2 < (a0.length : Int)) then some (decide (s1.2 < 4)) else some false)).bind fun c5 =>
 (bif c5 then
 ((idx a0 s1.2).bind fun x8 =>
 (pf25 x8 8).bind fun x9 =>
 (remO x9 4).bind fun x10 =>
 (bif decide (x10 = 0) then
 some s1.1
 else
 ((bif decide (4 < x9) then some (decide (0 < (s1.1.length : Int))) else some false)).bind fun c13 =>
 (bif c13 then
 (idx s1.1 (w64 ((s1.1.length : Int) - 1))).bind fun x15 =>
 (pf49 s1.2).bind fun x16 =>
 (appO x15.Syms [x16]).bind fun x17 =>
 some (s1.1.set (w64 ((s1.1.length : Int) - 1)).toNat (⟨x15.Kind, x15.Tag, x15.Syms ++ [x16], x15.At⟩ : Decl))
 else
 (remO x9 4).bind fun x18 =>
 (pf49 s1.2).bind fun x19 =>
 (appO s1.1 [(⟨w64 (1 + x18), { data := #[] }, [x19], 0⟩ : Decl)]).bind fun x20 =>
 some (s1.1 ++ [(⟨w64 (1 + x18), { data := #[] }, [x19], 0⟩ : Decl)])))).bind fun j7 =>
 some (.inl (j7, w64 (s1.2 + 1)))
 else
 some (.inr s1.1))) (([] : List Decl), 0)).bind fun x2 =>
 some x2
theorem con46 (a0 : (List Int)) (r : (List Decl)) (h : pf46 a0 = some r) : Con Try.prog 46 [iR eI a0] [none] (iR eDecl_0 r) := by
  unfold pf46 at h
  refine Con.go (N := ⟨59, []⟩) Try.func46 rfl rfl rfl rfl (W.fin ?_)
  refine W.st [(0, iR eI a0)] ?_
  refine W.sq' ?_
  refine W.rx [(0, _)] (RunL.v (O.as .knil) rfl rfl .none <| RunL.fin (.n rfl .nil)) ?_
  refine Px.sq ?_
  refine W.sq' ?_
  refine W.rx [(0, _), (3, _)] (RunL.v (O.as .knil) rfl rfl .none <| RunL.fin (.n rfl (.n rfl .nil))) ?_
  refine Px.sq ?_
  refine W.sq' ?_
  refine W.sq' ?_
  refine W.rx [(0, _), (3, _), (4, _)] (RunL.v (O.as (.k rfl)) rfl rfl .none <| RunL.fin (.n rfl (.n rfl (.n rfl .nil)))) ?_
  refine Px.sq ?_
  refine W.bk ?_
  obtain ⟨x2, hl, h⟩ := bnd h
  refine W.tr (G1 := [(0, iR eI a0), (3, oR eDecl_1 ([] : List Decl)), (4, I64 0)]) (.n rfl (.w rfl rfl .nilOwn (.n rfl .nil))) ?_
  refine W.lp1 (s := (([] : List Decl), 0)) (fun (s1 : List Decl × Int) => [(0, iR eI a0), (3, oR eDecl_1 s1.1), (4, I64 s1.2)]) 0 (fun (x2 : List Decl) => [(3, oR eDecl_1 x2)]) hl (fun s1 o h => ?_) ?_
  · clear hl
    refine W.sq' ?_
    refine W.sq' ?_
    obtain ⟨c5, hj, h⟩ := bnd h
    refine W.rx [(0, iR eI a0), (3, oR eDecl_1 s1.1), (4, I64 s1.2), (14, BB c5)] ?_ ?_
    · refine RunL.v (O.mv (.lit rfl)) rfl rfl .none <| RunL.v (O.mv (.imm rfl)) rfl rfl .none <| RunL.v (O.lenI (.imm rfl) sl27) rfl rfl .none <| RunL.v (O.lss (.lit rfl) (.lit rfl)) rfl rfl .none <| RunL.v (O.mv (.lit rfl)) rfl rfl .none ?_
      rcases cnd hj with ⟨hb4, hj⟩ | ⟨hb4, hj⟩
      · obtain rfl := sm hj
        exact RunL.v (O.mv (.lit rfl)) rfl rfl (.yb rfl rfl hb4) <| RunL.v (O.lss (.lit rfl) (.k rfl)) rfl rfl (.yb rfl rfl hb4) <| RunL.v (O.pkT (.lit rfl) hb4 (.lit rfl)) rfl rfl .none <| RunL.fin (.n rfl (.n rfl (.n rfl (.n rfl .nil))))
      · obtain rfl := sm hj
        exact RunL.ps rfl rfl hb4 rfl rfl <| RunL.ps rfl rfl hb4 rfl rfl <| RunL.v (O.pkF (.lit rfl) hb4 (.k rfl)) rfl rfl .none <| RunL.fin (.n rfl (.n rfl (.n rfl (.n rfl .nil))))
    refine Px.sq ?_
    refine W.cnd rfl (fun hb6 => ?_) (fun hb6 => ?_)
    · replace h := cndT hb6 h
      refine W.sk ?_
      refine Px.sq ?_
      refine W.sq' ?_
      obtain ⟨j7, hj, h⟩ := bnd h
      refine W.jn [(0, iR eI a0), (3, oR eDecl_1 j7), (4, I64 s1.2)] ?_ ?_
      · clear h; have h := hj; clear hj
        refine W.bk ?_
        refine W.sq' ?_
        obtain ⟨x8, hx8, h⟩ := bnd h
        obtain ⟨x9, hx9, h⟩ := bnd h
        refine W.rx [(0, _), (3, _), (4, _), (5, _)] (RunL.v (O.mv (.imm rfl)) rfl rfl .none <| RunL.v (O.mv (.lit rfl)) rfl rfl .none <| RunL.v (O.ixI (.imm rfl) (.lit rfl) sl27 hx8) rfl rfl .none <| RunL.v (O.ldI (x := I64 x8) (.iptr rfl) ct3 rfl) rfl rfl .none <| RunL.c (PC.go (.cc (.lit rfl) (.cc (.k rfl) .nil)) (con25 x8 8 _ hx9) call25 rfl) rfl rfl .none <| RunL.v (O.as (.lit rfl)) rfl rfl .none <| RunL.fin (.n rfl (.n rfl (.n rfl (.n rfl .nil))))) ?_
        refine Px.sq ?_
        refine W.sq' ?_
        refine W.sq' ?_
        obtain ⟨x10, hx10, h⟩ := bnd h
        refine W.rx [(0, _), (3, _), (4, _), (5, _), (24, _)] (RunL.v (O.mv (.lit rfl)) rfl rfl .none <| RunL.v (O.rem (.lit rfl) (.k rfl) hx10) rfl rfl .none <| RunL.v (O.eql (.lit rfl) (.k rfl)) rfl rfl .none <| RunL.fin (.n rfl (.n rfl (.n rfl (.n rfl (.n rfl .nil)))))) ?_
        refine Px.sq ?_
        refine W.cnd rfl (fun hb11 => ?_) (fun hb11 => ?_)
        · replace h := cndT hb11 h
          refine W.xi ?_
          refine Px.sqE ?_
          refine Px.bkH ?_
          obtain rfl := sm h
          exact Px.jn (.n rfl (.n rfl (.n rfl .nil)))
        · replace h := cndF hb11 h
          refine W.sk ?_
          refine Px.sq ?_
          refine W.sq' ?_
          refine W.sq' ?_
          refine W.rx [(0, _), (3, _), (4, _), (5, _), (6, _)] (RunL.v (O.mv (.own rfl)) rfl rfl .none <| RunL.v (O.lenO (.brw rfl) sl22) rfl rfl .none <| RunL.v (O.as (.lit rfl)) rfl rfl .none <| RunL.fin (.n rfl (.n rfl (.n rfl (.n rfl (.n rfl .nil)))))) ?_
          refine Px.sq ?_
          refine W.sq' ?_
          obtain ⟨c13, hj, h⟩ := bnd h
          refine W.rx [(0, iR eI a0), (3, oR eDecl_1 s1.1), (4, I64 s1.2), (5, I64 x9), (6, I64 (s1.1.length : Int)), (32, BB c13)] ?_ ?_
          · refine RunL.v (O.mv (.lit rfl)) rfl rfl .none <| RunL.v (O.gtr (.lit rfl) (.k rfl)) rfl rfl .none <| RunL.v (O.mv (.lit rfl)) rfl rfl .none ?_
            rcases cnd hj with ⟨hb12, hj⟩ | ⟨hb12, hj⟩
            · obtain rfl := sm hj
              exact RunL.v (O.mv (.lit rfl)) rfl rfl (.yb rfl rfl hb12) <| RunL.v (O.gtr (.lit rfl) (.k rfl)) rfl rfl (.yb rfl rfl hb12) <| RunL.v (O.pkT (.lit rfl) hb12 (.lit rfl)) rfl rfl .none <| RunL.fin (.n rfl (.n rfl (.n rfl (.n rfl (.n rfl (.n rfl .nil))))))
            · obtain rfl := sm hj
              exact RunL.ps rfl rfl hb12 rfl rfl <| RunL.ps rfl rfl hb12 rfl rfl <| RunL.v (O.pkF (.lit rfl) hb12 (.k rfl)) rfl rfl .none <| RunL.fin (.n rfl (.n rfl (.n rfl (.n rfl (.n rfl (.n rfl .nil))))))
          refine Px.sq ?_
          refine W.cnd rfl (fun hb14 => ?_) (fun hb14 => ?_)
          · replace h := cndT hb14 h
            refine W.sq' ?_
            obtain ⟨x15, hx15, h⟩ := bnd h
            obtain ⟨x16, hx16, h⟩ := bnd h
            obtain ⟨x17, hx17, h⟩ := bnd h
            refine W.rd [[], [], [1], [], [], [4], [3, 4, 5], [3, 4, 5, 6], [3, 4, 5, 6, 7], [], [9], [9, 10], [3, 4, 5, 6, 7, 8, 9, 10, 11], [0, 1, 2, 3, 4, 5, 6, 7, 8, 9, 10, 11, 12], [0, 1, 2, 3, 4, 5, 6, 7, 8, 9, 10, 11, 12, 13], [0, 1, 2, 3, 4, 5, 6, 7, 8, 9, 10, 11, 12, 13, 14]] [(0, _), (3, _), (4, _)] mixo (by kernel_rfl) (DL.v 0 (O.mv (.own rfl)) rfl rfl rfl rfl .none <| DL.v 1 (O.mv (.lit rfl)) rfl rfl rfl rfl .none <| DL.v 2 (O.sub (.lit rfl) (.k rfl)) rfl rfl rfl rfl .none <| DL.v 3 (O.mv (.own rfl)) rfl rfl rfl rfl .none <| DL.v 4 (O.mv (.lit rfl)) rfl rfl rfl rfl .none <| DL.v 5 (O.sub (.lit rfl) (.k rfl)) rfl rfl rfl rfl .none <| DL.v 6 (O.ixO (en := eDecl_1) rfl (.brw rfl) (.lit rfl) sl22 hx15 rfl) rfl rfl rfl rfl .none <| DL.v 7 (O.fE (en := eDecl_1) rfl (.ptr rfl) fd89_2 hx15 rfl rfl) rfl rfl rfl rfl .none <| DL.v 8 (O.ldE (en := eDecl_1) (x' := .brw eSym.z ⟨3, [(w64 ((s1.1.length : Int) - 1)).toNat * eDecl_1.z + 2]⟩ x15.Syms.length) rfl (.ptr rfl) ct87 hx15 rfl rfl) rfl rfl rfl rfl .none <| DL.v 9 (O.mv (.lit rfl)) rfl rfl rfl rfl .none <| DL.c 10 (PC.go (.cc (.lit rfl) .nil) (con49 s1.2 _ hx16) call49 rfl) rfl rfl rfl rfl .none <| DL.vi 11 (x := iR eSym [x16]) (O.bs (ys := [.agg [SS x16.Name, BB x16.Lit, I64 x16.Num, I64 x16.At]]) eSym [x16] sl87 rfl rfl rfl rfl rfl rfl zt91 rfl rfl) rfl rfl rfl rfl .none <| DL.v 12 (O.ap (en := eSym) (r := x17) (.brw rfl) (atP_el (r := 3) (path := []) (o := 2) (en := eDecl_1) rfl hx15 rfl) (.imm rfl) .i ap87 rfl hx17) rfl rfl rfl rfl .none <| DL.v 13 (O.ixO (en := eDecl_1) rfl (.brw rfl) (.lit rfl) sl22 hx15 rfl) rfl rfl rfl rfl .none <| DL.v 14 (O.fE (en := eDecl_1) rfl (.ptr rfl) fd89_2 hx15 rfl rfl) rfl rfl rfl rfl .none <| DL.bp 15 (G2 := [(0, iR eI a0), (3, oR eDecl_1 (s1.1.set (w64 ((s1.1.length : Int) - 1)).toNat (⟨x15.Kind, x15.Tag, x15.Syms ++ [x16], x15.At⟩ : Decl))), (4, I64 s1.2)]) (EO.stEP (en := eDecl_1) (en2 := eSym) (M := [x16]) (y2 := (⟨x15.Kind, x15.Tag, x15.Syms ++ [x16], x15.At⟩ : Decl)) (x2 := oR eDecl_1 (s1.1.set (w64 ((s1.1.length : Int) - 1)).toNat (⟨x15.Kind, x15.Tag, x15.Syms ++ [x16], x15.At⟩ : Decl))) (y0 := .own eDecl_1.z s1.1.length ((rowc eDecl_1 s1.1).set ((w64 ((s1.1.length : Int) - 1)).toNat * eDecl_1.z + 2) .dead)) rfl rfl (.ptr rfl) (.pend rfl) rfl rfl hx15 rfl rfl .ns .rf rfl rfl sz87 rfl rfl rfl rfl rfl rfl (.n rfl rfl (.b rfl (.n rfl rfl .nil)))) rfl rfl rfl rfl (by kernel_rfl) (by kernel_rfl) <| DL.fin rfl rfl rfl (.n rfl (.n rfl (.n rfl .nil)))) ?_
            refine Px.sq ?_
            refine W.xi ?_
            refine Px.sqE ?_
            refine Px.bkH ?_
            obtain rfl := sm h
            exact Px.jn (.n rfl (.n rfl (.n rfl .nil)))
          · replace h := cndF hb14 h
            refine W.sk ?_
            refine Px.sq ?_
            obtain ⟨x18, hx18, h⟩ := bnd h
            obtain ⟨x19, hx19, h⟩ := bnd h
            obtain ⟨x20, hx20, h⟩ := bnd h
            refine W.rx [(0, _), (3, _), (4, _)] (RunL.v (O.mv (.own rfl)) rfl rfl .none <| RunL.v (O.mv (.lit rfl)) rfl rfl .none <| RunL.v (O.rem (.lit rfl) (.k rfl) hx18) rfl rfl .none <| RunL.v (O.add (.k rfl) (.lit rfl)) rfl rfl .none <| RunL.v (O.mv (.lit rfl)) rfl rfl .none <| RunL.c (PC.go (.cc (.lit rfl) .nil) (con49 s1.2 _ hx19) call49 rfl) rfl rfl .none <| RunL.v (O.bsL (ys := [.agg [SS x19.Name, BB x19.Lit, I64 x19.Num, I64 x19.At]]) (cs := [SS x19.Name, BB x19.Lit, I64 x19.Num, I64 x19.At]) sl87 rfl rfl rfl rfl rfl zt91 rfl rfl) rfl rfl .none <| RunL.v (O.bu (cs := [I64 (w64 (1 + x18)), SS ({ data := #[] }), .brw 4 ⟨54, []⟩ 1, I64 0]) sc89 ze89 rfl rfl rfl) rfl rfl .none <| RunL.v (O.bsL (ys := [.agg [I64 (w64 (1 + x18)), SS ({ data := #[] }), .brw 4 ⟨54, []⟩ 1, I64 0]]) (cs := [I64 (w64 (1 + x18)), SS ({ data := #[] }), .brw 4 ⟨54, []⟩ 1, I64 0]) sl22 rfl rfl rfl rfl rfl zt89 rfl rfl) rfl rfl .none <| RunL.v (O.apL (en := eDecl_1) (M := [(⟨w64 (1 + x18), { data := #[] }, [x19], 0⟩ : Decl)]) (r := x20) (.brw rfl) rfl (.own rfl) rfl rfl rfl rfl ap22 rfl hx20) rfl rfl .none <| RunL.ea (G2 := [(0, iR eI a0), (4, I64 s1.2)]) rfl (EO.apG (M := [(⟨w64 (1 + x18), { data := #[] }, [x19], 0⟩ : Decl)]) rfl rfl (.pend rfl) rfl rfl rfl (.f (.f (.l rfl rfl (.f (.f (.f (.f .nil)))) (.f .nil)))) (.f (.f (.f (.f .nil)))) rfl rfl (.n rfl (.n rfl .nil)) rfl rfl) <| RunL.fin (.n rfl (.n rfl (.n rfl .nil)))) ?_
            refine Px.bk ?_
            obtain rfl := sm h
            exact Px.jn (.n rfl (.n rfl (.n rfl .nil)))
      refine Px.sq ?_
      refine W.rx [(0, _), (3, _), (4, _)] (RunL.v (O.mv (.lit rfl)) rfl rfl .none <| RunL.v (O.add (.lit rfl) (.k rfl)) rfl rfl .none <| RunL.re (G1 := [(0, iR eI a0), (3, oR eDecl_1 j7), (16, I64 (w64 (s1.2 + 1)))]) (.n rfl (.n rfl (.n rfl .nil))) <| RunL.v (O.as (.lit rfl)) rfl rfl .none <| RunL.fin (.n rfl (.n rfl (.n rfl .nil)))) ?_
      obtain rfl := sm h
      exact Px.go (.n rfl (.n rfl (.n rfl .nil)))
    · replace h := cndF hb6 h
      refine W.xi ?_
      refine Px.sqE ?_
      obtain rfl := sm h
      exact Px.x1 (.n rfl .nil)
  refine Px.bkH ?_
  refine Px.sq ?_
  refine W.sq' ?_
  refine W.rx [(2, _)] (RunL.v (O.mv (.own rfl)) rfl rfl .none <| RunL.ea (G2 := []) rfl (EO.aR rfl rfl (.brw rfl) rfl .nil rfl rfl) <| RunL.fin (.n rfl .nil)) ?_
  refine Px.sq ?_
  refine W.fz (G1 := [(2, iR eDecl_0 x2)]) [2] (.z rfl rfl .zz .nil) ?_
  refine W.rt ?_
  obtain rfl := sm h
  exact Px.fin (Fin.ro (.f rfl rfl .nil) rfl (of_decide_eq_true (by kernel_rfl)) (.no .nil) rfl (.inr rfl))
def pf47 (a0 : Int) : Option (ByteArray) :=
 some (strOfNums [w8 (w64 (97 + a0))])
theorem con47 (a0 : Int) (r : ByteArray) (h : pf47 a0 = some r) : Con Try.prog 47 [I64 a0] [none] (SS r) := by
  unfold pf47 at h
  refine Con.go (N := ⟨8, []⟩) Try.func47 rfl rfl rfl rfl (W.fin ?_)
  refine W.st [(0, I64 a0)] ?_
  refine W.sq' ?_
  refine W.rx [(0, _)] (RunL.v (O.as (.k rfl)) rfl rfl .none <| RunL.fin (.n rfl .nil)) ?_
  refine Px.sq ?_
  refine W.sq' ?_
  refine W.rx [(2, _)] (RunL.v (O.mv (.lit rfl)) rfl rfl .none <| RunL.v (O.add (.k rfl) (.lit rfl)) rfl rfl .none <| RunL.v (O.cvI (.lit rfl) it3 it5) rfl rfl .none <| RunL.vi (x := iR eU [w8 (w64 (97 + a0))]) (O.bs (ys := [U8 (w8 (w64 (97 + a0)))]) eU [w8 (w64 (97 + a0))] sl60 rfl rfl rfl rfl rfl rfl zt5 rfl rfl) rfl rfl .none <| RunL.v (O.cvC (.imm rfl) by60_9) rfl rfl .none <| RunL.v (O.as (.lit rfl)) rfl rfl .none <| RunL.fin (.n rfl .nil)) ?_
  refine Px.sq ?_
  refine W.rt ?_
  obtain rfl := sm h
  exact Px.fin (Fin.ro (.f rfl rfl .nil) rfl (of_decide_eq_true (by kernel_rfl)) (.no .nil) rfl (.inr rfl))
def pf48 (a0 : Int) (a1 : Int) : Option (Sym) :=
 (pf25 a0 14).bind fun x1 =>
 (bif decide (x1 < 5) then
 (remO x1 a1).bind fun x3 =>
 (pf47 x3).bind fun x4 =>
 some (⟨x4, false, 0, 0⟩ : Sym)
 else
 (bif decide (x1 = 13) then
 some (⟨{ data := #[101, 114, 114, 111, 114] }, false, 0, 0⟩ : Sym)
 else
 (pf49 (w64 (x1 - 5))).bind fun x6 =>
 some x6))
theorem con48 (a0 : Int) (a1 : Int) (r : Sym) (h : pf48 a0 a1 = some r) : Con Try.prog 48 [I64 a0, I64 a1] [none, none] (.agg [SS r.Name, BB r.Lit, I64 r.Num, I64 r.At]) := by
  unfold pf48 at h
  refine Con.go (N := ⟨23, []⟩) Try.func48 rfl rfl rfl rfl (W.fin ?_)
  refine W.st [(0, I64 a0), (1, I64 a1)] ?_
  refine W.sq' ?_
  refine W.rx [(0, _), (1, _), (4, _)] (RunL.v (O.al (cs := [SS ({ data := #[] }), BB false, I64 0, I64 0]) ze91 rfl rfl) rfl rfl .none <| RunL.fin (.n rfl (.n rfl (.n rfl .nil)))) ?_
  refine Px.sq ?_
  refine W.sq' ?_
  obtain ⟨x1, hx1, h⟩ := bnd h
  refine W.rx [(1, _), (4, _), (5, _)] (RunL.v (O.mv (.lit rfl)) rfl rfl .none <| RunL.c (PC.go (.cc (.lit rfl) (.cc (.k rfl) .nil)) (con25 a0 14 _ hx1) call25 rfl) rfl rfl .none <| RunL.v (O.as (.lit rfl)) rfl rfl .none <| RunL.fin (.n rfl (.n rfl (.n rfl .nil)))) ?_
  refine Px.sq ?_
  refine W.sq' ?_
  refine W.bk ?_
  refine W.sq' ?_
  refine W.rx [(1, _), (4, _), (5, _), (8, _)] (RunL.v (O.mv (.lit rfl)) rfl rfl .none <| RunL.v (O.lss (.lit rfl) (.k rfl)) rfl rfl .none <| RunL.v (O.as (.lit rfl)) rfl rfl .none <| RunL.fin (.n rfl (.n rfl (.n rfl (.n rfl .nil))))) ?_
  refine Px.sq ?_
  refine W.cnd rfl (fun hb2 => ?_) (fun hb2 => ?_)
  · replace h := cndT hb2 h
    refine W.sq' ?_
    obtain ⟨x3, hx3, h⟩ := bnd h
    obtain ⟨x4, hx4, h⟩ := bnd h
    refine W.rx [(4, _)] (RunL.v (O.mv (.lit rfl)) rfl rfl .none <| RunL.v (O.mv (.lit rfl)) rfl rfl .none <| RunL.v (O.rem (.lit rfl) (.lit rfl) hx3) rfl rfl .none <| RunL.c (PC.go (.cc (.lit rfl) .nil) (con47 x3 _ hx4) call47 rfl) rfl rfl .none <| RunL.v (O.bu (cs := [SS x4, BB false, I64 0, I64 0]) sc91 ze91 rfl rfl rfl) rfl rfl .none <| RunL.sO (G2 := [(4, .obj [SS x4, BB false, I64 0, I64 0])]) (cs2 := [SS x4, BB false, I64 0, I64 0]) rfl (.obj rfl) (.aggF rfl rfl) rfl sz91 rfl rfl rfl rfl (.b rfl .nil) <| RunL.fin (.n rfl .nil)) ?_
    refine Px.sq ?_
    refine W.rt ?_
    refine Px.bkR ?_
    refine Px.sqR ?_
    obtain rfl := sm h
    exact Px.fin (Fin.ro (.c (ys0 := [SS x4, BB false, I64 0, I64 0]) rfl at91 rfl rfl rfl (.f rfl (.f rfl (.f rfl (.f rfl .nil)))) .nil) rfl (of_decide_eq_true (by kernel_rfl)) (.no (.no .nil)) rfl (.inr rfl))
  · replace h := cndF hb2 h
    refine W.sq' ?_
    refine W.rx [(4, _), (5, _), (16, _)] (RunL.v (O.mv (.lit rfl)) rfl rfl .none <| RunL.v (O.eql (.lit rfl) (.k rfl)) rfl rfl .none <| RunL.v (O.as (.lit rfl)) rfl rfl .none <| RunL.fin (.n rfl (.n rfl (.n rfl .nil)))) ?_
    refine Px.sq ?_
    refine W.cnd rfl (fun hb5 => ?_) (fun hb5 => ?_)
    · replace h := cndT hb5 h
      refine W.sq' ?_
      refine W.rx [(4, _)] (RunL.v (O.bu (cs := [SS ({ data := #[101, 114, 114, 111, 114] }), BB false, I64 0, I64 0]) sc91 ze91 rfl rfl rfl) rfl rfl .none <| RunL.sO (G2 := [(4, .obj [SS ({ data := #[101, 114, 114, 111, 114] }), BB false, I64 0, I64 0])]) (cs2 := [SS ({ data := #[101, 114, 114, 111, 114] }), BB false, I64 0, I64 0]) rfl (.obj rfl) (.aggF rfl rfl) rfl sz91 rfl rfl rfl rfl (.b rfl .nil) <| RunL.fin (.n rfl .nil)) ?_
      refine Px.sq ?_
      refine W.rt ?_
      refine Px.bkR ?_
      refine Px.sqR ?_
      obtain rfl := sm h
      exact Px.fin (Fin.ro (.c (ys0 := [SS ({ data := #[101, 114, 114, 111, 114] }), BB false, I64 0, I64 0]) rfl at91 rfl rfl rfl (.f rfl (.f rfl (.f rfl (.f rfl .nil)))) .nil) rfl (of_decide_eq_true (by kernel_rfl)) (.no (.no .nil)) rfl (.inr rfl))
    · replace h := cndF hb5 h
      refine W.sk ?_
      refine Px.bk ?_
      refine Px.sq ?_
      refine W.sq' ?_
      obtain ⟨x6, hx6, h⟩ := bnd h
      refine W.rx [(4, _)] (RunL.v (O.mv (.lit rfl)) rfl rfl .none <| RunL.v (O.sub (.lit rfl) (.k rfl)) rfl rfl .none <| RunL.c (PC.go (.cc (.lit rfl) .nil) (con49 (w64 (x1 - 5)) _ hx6) call49 rfl) rfl rfl .none <| RunL.sO (G2 := [(4, .obj [SS x6.Name, BB x6.Lit, I64 x6.Num, I64 x6.At])]) (cs2 := [SS x6.Name, BB x6.Lit, I64 x6.Num, I64 x6.At]) rfl (.obj rfl) (.aggF rfl rfl) rfl sz91 rfl rfl rfl rfl (.b rfl .nil) <| RunL.fin (.n rfl .nil)) ?_
      refine Px.sq ?_
      refine W.rt ?_
      obtain rfl := sm h
      exact Px.fin (Fin.ro (.c (ys0 := [SS x6.Name, BB x6.Lit, I64 x6.Num, I64 x6.At]) rfl at91 rfl rfl rfl (.f rfl (.f rfl (.f rfl (.f rfl .nil)))) .nil) rfl (of_decide_eq_true (by kernel_rfl)) (.no (.no .nil)) rfl (.inr rfl))
structure yuccalaw0_Gr where
  Nons : Int
  Rules : (List (List Int))
  Levels : (List Int)
  Inner : (List Int)
  Bare : Bool
  deriving DecidableEq, Inhabited
def eRule_1 : En Rule := ⟨3, fun x => [SS x.Left, oR eAlt_0 x.Alts, I64 x.At], fun _ => rfl, fun _ => NRl.nr⟩
instance : Tw eRule_1 eRule_0 := ⟨rfl, fun x => (inferInstance : Vws [SS x.Left, oR eAlt_0 x.Alts, I64 x.At] [SS x.Left, iR eAlt_0 x.Alts, I64 x.At])⟩
def pf17 (a0 : yuccalaw0_Gr) : Option (Source) :=
 (pf25 a0.Nons 4).bind fun x1 =>
 (pf46 a0.Levels).bind fun x2 =>
 (mkO (w64 (1 + x1)) false).bind fun x3 =>
 (loopM (R := List Rule) (fun (s4 : List Rule × Int) =>
 (bif decide (s4.2 < w64 (1 + x1)) then
 (pf47 s4.2).bind fun x8 =>
 (appO s4.1 [(⟨x8, ([] : List Alt), 0⟩ : Rule)]).bind fun x9 =>
 some (.inl (s4.1 ++ [(⟨x8, ([] : List Alt), 0⟩ : Rule)], w64 (s4.2 + 1)))
 else
 some (.inr s4.1))) (([] : List Rule), 0)).bind fun x5 =>
 (loopM (R := List Rule × List Bool) (fun (s10 : List Rule × List Bool × Int) =>
 ((bif decide (s10.2.2 < (a0.Rules.length : Int)) then some (decide (s10.2.2 < 9)) else some false)).bind fun c14 =>
 (bif c14 then
 ((idx a0.Rules s10.2.2).bind fun x17 =>
 (bif decide ((x17.length : Int) = 0) then
 some (s10.1, s10.2.1)
 else
 (idx a0.Rules s10.2.2).bind fun x19 =>
 (idx x19 0).bind fun x20 =>
 (pf25 x20 (w64 (1 + x1))).bind fun x21 =>
 (loopM (R := List Part × Bool) (fun (s22 : List Part × Bool × Int) =>
 (((idx a0.Rules s10.2.2).bind fun x25 => (bif decide (s22.2.2 < (x25.length : Int)) then some (decide (s22.2.2 < 5)) else some false))).bind fun c27 =>
 (bif c27 then
 ((idx a0.Rules s10.2.2).bind fun x30 =>
 (idx x30 s22.2.2).bind fun x31 =>
 (pf48 x31 (w64 (1 + x1))).bind fun x32 =>
 ((bif s22.2.1 then (bif x32.Lit then some true else some (decide (x32.Name = { data := #[101, 114, 114, 111, 114] }))) else some false)).bind fun c35 =>
 (appO s22.1 [(⟨x32, { data := #[] }, 0⟩ : Part)]).bind fun x36 =>
 ((bif decide (s10.2.2 < (a0.Inner.length : Int)) then (bif decide (s22.2.2 = 1) then ((idx a0.Inner s10.2.2).bind fun x39 => ((remO x39 3).bind fun x40 => some (decide (x40 = 1)))) else some false) else some false)).bind fun c41 =>
 ((bif c41 then
 (appO (s22.1 ++ [(⟨x32, { data := #[] }, 0⟩ : Part)]) [(⟨(⟨{ data := #[] }, false, 0, 0⟩ : Sym), { data := #[123, 36, 36, 32, 61, 32, 36, 49, 125] }, 0⟩ : Part)]).bind fun x44 =>
 some ((s22.1 ++ [(⟨x32, { data := #[] }, 0⟩ : Part)]) ++ [(⟨(⟨{ data := #[] }, false, 0, 0⟩ : Sym), { data := #[123, 36, 36, 32, 61, 32, 36, 49, 125] }, 0⟩ : Part)])
 else
 some (s22.1 ++ [(⟨x32, { data := #[] }, 0⟩ : Part)]))).bind fun j42 =>
 some (j42, c35)).bind fun j29 =>
 some (.inl (j29.1, j29.2, w64 (s22.2.2 + 1)))
 else
 some (.inr (s22.1, s22.2.1)))) (([] : List Part), true, 1)).bind fun x23 =>
 ((bif decide (s10.2.2 < (a0.Inner.length : Int)) then ((idx a0.Inner s10.2.2).bind fun x46 => ((remO x46 2).bind fun x47 => some (!decide (x47 = 0)))) else some false)).bind fun c48 =>
 ((bif c48 then
 (appO x23.1 [(⟨(⟨{ data := #[] }, false, 0, 0⟩ : Sym), { data := #[123, 102, 40, 36, 36, 41, 125] }, 0⟩ : Part)]).bind fun x51 =>
 some (x23.1 ++ [(⟨(⟨{ data := #[] }, false, 0, 0⟩ : Sym), { data := #[123, 102, 40, 36, 36, 41, 125] }, 0⟩ : Part)])
 else
 some x23.1)).bind fun j49 =>
 (((idx s10.2.1 x21).bind fun x52 => (bif x52 then some (s10.2.1.set x21.toNat true) else some (s10.2.1.set x21.toNat x23.2)))).bind fun c54 =>
 (idx s10.1 x21).bind fun x55 =>
 (appO x55.Alts [(⟨j49, (⟨{ data := #[] }, false, 0, 0⟩ : Sym), 0⟩ : Alt)]).bind fun x56 =>
 some (s10.1.set x21.toNat (⟨x55.Left, x55.Alts ++ [(⟨j49, (⟨{ data := #[] }, false, 0, 0⟩ : Sym), 0⟩ : Alt)], x55.At⟩ : Rule), c54))).bind fun j16 =>
 some (.inl (j16.1, j16.2, w64 (s10.2.2 + 1)))
 else
 some (.inr (s10.1, s10.2.1)))) (x5, x3, 0)).bind fun x11 =>
 (loopM (R := List Rule) (fun (s57 : List Rule × Int) =>
 (bif decide (s57.2 < w64 (1 + x1)) then
 ((((idx s57.1 s57.2).bind fun x62 => (bif decide ((x62.Alts.length : Int) = 0) then some true else ((idx x11.2 s57.2).bind fun x64 => (bif !x64 then some (!a0.Bare) else some false))))).bind fun c66 =>
 ((bif c66 then
 (idx s57.1 s57.2).bind fun x69 =>
 (pf49 s57.2).bind fun x70 =>
 (appO x69.Alts [(⟨[(⟨x70, { data := #[] }, 0⟩ : Part)], (⟨{ data := #[] }, false, 0, 0⟩ : Sym), 0⟩ : Alt)]).bind fun x71 =>
 some (s57.1.set s57.2.toNat (⟨x69.Left, x69.Alts ++ [(⟨[(⟨x70, { data := #[] }, 0⟩ : Part)], (⟨{ data := #[] }, false, 0, 0⟩ : Sym), 0⟩ : Alt)], x69.At⟩ : Rule))
 else
 some s57.1)).bind fun j67 =>
 some j67).bind fun j61 =>
 some (.inl (j61, w64 (s57.2 + 1)))
 else
 some (.inr s57.1))) (x11.1, 0)).bind fun x58 =>
 some (⟨{ data := #[] }, x2, x58, { data := #[] }⟩ : Source)
theorem con17 (a0 : yuccalaw0_Gr) (r : Source) (h : pf17 a0 = some r) : Con Try.prog 17 [.agg [I64 a0.Nons, iR (eM eI) a0.Rules, iR eI a0.Levels, iR eI a0.Inner, BB a0.Bare]] [none] (.agg [SS r.Pro, iR eDecl_0 r.Decls, iR eRule_0 r.Rules, SS r.Tail]) := by
  unfold pf17 at h
  refine Con.go (N := ⟨217, []⟩) Try.func17 rfl rfl rfl rfl (W.fin ?_)
  refine W.st [(0, .agg [I64 a0.Nons, iR (eM eI) a0.Rules, iR eI a0.Levels, iR eI a0.Inner, BB a0.Bare])] ?_
  refine W.sq' ?_
  refine W.rx [(1, _), (2, _)] (RunL.v (O.box (.aggF rfl rfl) rfl) rfl rfl .none <| RunL.v (O.al (cs := [SS ({ data := #[] }), .nils, .nils, SS ({ data := #[] })]) ze25 rfl rfl) rfl rfl .none <| RunL.fin (.n rfl (.n rfl .nil))) ?_
  refine Px.sq ?_
  refine W.sq' ?_
  obtain ⟨x1, hx1, h⟩ := bnd h
  refine W.rx [(1, _), (2, _), (3, _)] (RunL.v (O.fO rfl (.obj rfl) fd29_0 rfl) rfl rfl .none <| RunL.v (O.ldO (y := I64 a0.Nons) rfl (.ptr rfl) ct3 rfl rfl) rfl rfl .none <| RunL.c (PC.go (.cc (.lit rfl) (.cc (.k rfl) .nil)) (con25 a0.Nons 4 _ hx1) call25 rfl) rfl rfl .none <| RunL.v (O.add (.k rfl) (.lit rfl)) rfl rfl .none <| RunL.v (O.as (.lit rfl)) rfl rfl .none <| RunL.fin (.n rfl (.n rfl (.n rfl .nil)))) ?_
  refine Px.sq ?_
  refine W.sq' ?_
  obtain ⟨x2, hx2, h⟩ := bnd h
  refine W.rx [(1, _), (2, _), (3, _), (4, _)] (RunL.v (O.fO rfl (.obj rfl) fd29_2 rfl) rfl rfl .none <| RunL.v (O.ldO (y := iR eI a0.Levels) rfl (.ptr rfl) ct27 rfl rfl) rfl rfl .none <| RunL.c (PC.go (.cc (.imm rfl) .nil) (con46 a0.Levels _ hx2) call46 rfl) rfl rfl .none <| RunL.v (O.bu (cs := [SS ({ data := #[] }), iR eDecl_0 x2, .nils, SS ({ data := #[] })]) sc25 ze25 rfl rfl rfl) rfl rfl .none <| RunL.v (O.al (cs := [SS ({ data := #[] }), .nils, .nils, SS ({ data := #[] })]) ze25 rfl rfl) rfl rfl .none <| RunL.sO (G2 := [(1, .obj [I64 a0.Nons, iR (eM eI) a0.Rules, iR eI a0.Levels, iR eI a0.Inner, BB a0.Bare]), (2, .obj [SS ({ data := #[] }), .nils, .nils, SS ({ data := #[] })]), (3, I64 (w64 (1 + x1))), (4, .obj [SS ({ data := #[] }), iR eDecl_0 x2, .nils, SS ({ data := #[] })])]) (cs2 := [SS ({ data := #[] }), iR eDecl_0 x2, .nils, SS ({ data := #[] })]) rfl (.obj rfl) (.aggF rfl rfl) rfl sz25 rfl rfl rfl rfl (.n rfl rfl (.n rfl rfl (.n rfl rfl (.b rfl .nil)))) <| RunL.fin (.n rfl (.n rfl (.n rfl (.n rfl .nil))))) ?_
  refine Px.sq ?_
  refine W.sq' ?_
  obtain ⟨x3, hx3, h⟩ := bnd h
  refine W.rx [(1, _), (2, _), (3, _), (4, _), (5, _)] (RunL.v (O.mv (.lit rfl)) rfl rfl .none <| RunL.v (O.mk (en := eB) (z0 := false) sl102 (.lit rfl) (.lit rfl) ze4 rfl rfl hx3 bb4 rfl) rfl rfl .none <| RunL.ea (G2 := [(1, .obj [I64 a0.Nons, iR (eM eI) a0.Rules, iR eI a0.Levels, iR eI a0.Inner, BB a0.Bare]), (2, .obj [SS ({ data := #[] }), .nils, .nils, SS ({ data := #[] })]), (3, I64 (w64 (1 + x1))), (4, .obj [SS ({ data := #[] }), iR eDecl_0 x2, .nils, SS ({ data := #[] })])]) rfl (EO.aR rfl rfl (.own rfl) rfl (.n rfl rfl (.n rfl rfl (.n rfl rfl (.n rfl rfl .nil)))) rfl rfl) <| RunL.fin (.n rfl (.n rfl (.n rfl (.n rfl (.n rfl .nil)))))) ?_
  refine Px.sq ?_
  refine W.sq' ?_
  refine W.sq' ?_
  refine W.rx [(1, _), (2, _), (3, _), (4, _), (5, _), (6, _)] (RunL.v (O.as (.k rfl)) rfl rfl .none <| RunL.fin (.n rfl (.n rfl (.n rfl (.n rfl (.n rfl (.n rfl .nil))))))) ?_
  refine Px.sq ?_
  refine W.bk ?_
  obtain ⟨x5, hl, h⟩ := bnd h
  refine W.tr (G1 := [(1, .obj [I64 a0.Nons, iR (eM eI) a0.Rules, iR eI a0.Levels, iR eI a0.Inner, BB a0.Bare]), (2, .obj [SS ({ data := #[] }), .nils, .nils, SS ({ data := #[] })]), (3, I64 (w64 (1 + x1))), (4, .obj [SS ({ data := #[] }), iR eDecl_0 x2, oR eRule_1 ([] : List Rule), SS ({ data := #[] })]), (5, oR eB x3), (6, I64 0)]) (.n rfl (.n rfl (.n rfl (.w rfl rfl (WkL.obj (.f (.f (.o (.f .nil))))) (.n rfl (.n rfl .nil)))))) ?_
  refine W.lp1 (s := (([] : List Rule), 0)) (fun (s4 : List Rule × Int) => [(1, .obj [I64 a0.Nons, iR (eM eI) a0.Rules, iR eI a0.Levels, iR eI a0.Inner, BB a0.Bare]), (2, .obj [SS ({ data := #[] }), .nils, .nils, SS ({ data := #[] })]), (3, I64 (w64 (1 + x1))), (4, .obj [SS ({ data := #[] }), iR eDecl_0 x2, oR eRule_1 s4.1, SS ({ data := #[] })]), (5, oR eB x3), (6, I64 s4.2)]) 0 (fun (x5 : List Rule) => [(1, .obj [I64 a0.Nons, iR (eM eI) a0.Rules, iR eI a0.Levels, iR eI a0.Inner, BB a0.Bare]), (2, .obj [SS ({ data := #[] }), .nils, .nils, SS ({ data := #[] })]), (3, I64 (w64 (1 + x1))), (4, .obj [SS ({ data := #[] }), iR eDecl_0 x2, oR eRule_1 x5, SS ({ data := #[] })]), (5, oR eB x3)]) hl (fun s4 o h => ?_) ?_
  · clear hl
    refine W.sq' ?_
    refine W.sq' ?_
    refine W.rx [(1, _), (2, _), (3, _), (4, _), (5, _), (6, _), (26, _)] (RunL.v (O.mv (.lit rfl)) rfl rfl .none <| RunL.v (O.mv (.lit rfl)) rfl rfl .none <| RunL.v (O.lss (.lit rfl) (.lit rfl)) rfl rfl .none <| RunL.fin (.n rfl (.n rfl (.n rfl (.n rfl (.n rfl (.n rfl (.n rfl .nil)))))))) ?_
    refine Px.sq ?_
    refine W.cnd rfl (fun hb7 => ?_) (fun hb7 => ?_)
    · replace h := cndT hb7 h
      refine W.sk ?_
      refine Px.sq ?_
      refine W.sq' ?_
      refine W.bk ?_
      obtain ⟨x8, hx8, h⟩ := bnd h
      obtain ⟨x9, hx9, h⟩ := bnd h
      refine W.rd [[], [0], [], [2], [2, 3], [2, 3, 4], [0, 1, 2, 3, 4, 5], [0, 1, 2, 3, 4, 5, 6], [0, 1, 2, 3, 4, 5, 6, 7]] [(1, _), (2, _), (3, _), (4, _), (5, _), (6, _)] mixo (by kernel_rfl) (DL.v 0 (O.fO rfl (.obj rfl) fd25_2 rfl) rfl rfl rfl rfl .none <| DL.v 1 (O.ldO (y := .brw eRule_1.z ⟨4, [2]⟩ s4.1.length) rfl (.ptr rfl) ct23 rfl rfl) rfl rfl rfl rfl .none <| DL.v 2 (O.mv (.lit rfl)) rfl rfl rfl rfl .none <| DL.c 3 (PC.go (.cc (.lit rfl) .nil) (con47 s4.2 _ hx8) call47 rfl) rfl rfl rfl rfl .none <| DL.v 4 (O.bu (cs := [SS x8, .nils, I64 0]) sc95 ze95 rfl rfl rfl) rfl rfl rfl rfl .none <| DL.v 5 (O.bsL (ys := [.agg [SS x8, .nils, I64 0]]) (cs := [SS x8, .nils, I64 0]) sl23 rfl rfl rfl rfl rfl zt95 rfl rfl) rfl rfl rfl rfl .none <| DL.v 6 (O.apL (en := eRule_1) (M := [(⟨x8, ([] : List Alt), 0⟩ : Rule)]) (r := x9) (.brw rfl) rfl (.own rfl) rfl rfl rfl rfl ap23 rfl hx9) rfl rfl rfl rfl .none <| DL.v 7 (O.fO rfl (.obj rfl) fd25_2 rfl) rfl rfl rfl rfl .none <| DL.bp 8 (G2 := [(1, .obj [I64 a0.Nons, iR (eM eI) a0.Rules, iR eI a0.Levels, iR eI a0.Inner, BB a0.Bare]), (2, .obj [SS ({ data := #[] }), .nils, .nils, SS ({ data := #[] })]), (3, I64 (w64 (1 + x1))), (4, .obj [SS ({ data := #[] }), iR eDecl_0 x2, oR eRule_1 (s4.1 ++ [(⟨x8, ([] : List Alt), 0⟩ : Rule)]), SS ({ data := #[] })]), (5, oR eB x3), (6, I64 s4.2)]) (EO.stP (g1 := _) (en := eRule_1) (M := [(⟨x8, ([] : List Alt), 0⟩ : Rule)]) (cs2 := [SS ({ data := #[] }), iR eDecl_0 x2, oR eRule_1 (s4.1 ++ [(⟨x8, ([] : List Alt), 0⟩ : Rule)]), SS ({ data := #[] })]) rfl rfl (.ptr rfl) (.pend rfl) rfl rfl rfl (.f (.f (.f .nil))) (.f (.o (.f .nil))) rfl rfl sz23 rfl rfl rfl rfl (.n rfl rfl (.n rfl rfl (.n rfl rfl (.b rfl (.n rfl rfl (.n rfl rfl .nil))))))) rfl rfl rfl rfl (by kernel_rfl) (by kernel_rfl) <| DL.fin rfl rfl rfl (.n rfl (.n rfl (.n rfl (.n rfl (.n rfl (.n rfl .nil))))))) ?_
      refine Px.bk ?_
      refine Px.sq ?_
      refine W.rx [(1, _), (2, _), (3, _), (4, _), (5, _), (6, _)] (RunL.v (O.mv (.lit rfl)) rfl rfl .none <| RunL.v (O.add (.lit rfl) (.k rfl)) rfl rfl .none <| RunL.re (G1 := [(1, .obj [I64 a0.Nons, iR (eM eI) a0.Rules, iR eI a0.Levels, iR eI a0.Inner, BB a0.Bare]), (2, .obj [SS ({ data := #[] }), .nils, .nils, SS ({ data := #[] })]), (3, I64 (w64 (1 + x1))), (4, .obj [SS ({ data := #[] }), iR eDecl_0 x2, oR eRule_1 (s4.1 ++ [(⟨x8, ([] : List Alt), 0⟩ : Rule)]), SS ({ data := #[] })]), (5, oR eB x3), (28, I64 (w64 (s4.2 + 1)))]) (.n rfl (.n rfl (.n rfl (.n rfl (.n rfl (.n rfl .nil)))))) <| RunL.v (O.as (.lit rfl)) rfl rfl .none <| RunL.fin (.n rfl (.n rfl (.n rfl (.n rfl (.n rfl (.n rfl .nil))))))) ?_
      obtain rfl := sm h
      exact Px.go (.n rfl (.n rfl (.n rfl (.n rfl (.n rfl (.n rfl .nil))))))
    · replace h := cndF hb7 h
      refine W.xi ?_
      refine Px.sqE ?_
      obtain rfl := sm h
      exact Px.x1 (.n rfl (.n rfl (.n rfl (.n rfl (.n rfl .nil)))))
  refine Px.bkH ?_
  refine Px.sq ?_
  refine W.sq' ?_
  refine W.sq' ?_
  refine W.rx [(1, _), (2, _), (3, _), (4, _), (5, _), (7, _)] (RunL.v (O.as (.k rfl)) rfl rfl .none <| RunL.fin (.n rfl (.n rfl (.n rfl (.n rfl (.n rfl (.n rfl .nil))))))) ?_
  refine Px.sq ?_
  refine W.bk ?_
  obtain ⟨x11, hl, h⟩ := bnd h
  refine W.tr (G1 := [(1, .obj [I64 a0.Nons, iR (eM eI) a0.Rules, iR eI a0.Levels, iR eI a0.Inner, BB a0.Bare]), (2, .obj [SS ({ data := #[] }), .nils, .nils, SS ({ data := #[] })]), (3, I64 (w64 (1 + x1))), (4, .obj [SS ({ data := #[] }), iR eDecl_0 x2, oR eRule_1 x5, SS ({ data := #[] })]), (5, oR eB x3), (7, I64 0)]) (.n rfl (.n rfl (.n rfl (.n rfl (.n rfl (.n rfl .nil)))))) ?_
  refine W.lp1 (s := (x5, x3, 0)) (fun (s10 : List Rule × List Bool × Int) => [(1, .obj [I64 a0.Nons, iR (eM eI) a0.Rules, iR eI a0.Levels, iR eI a0.Inner, BB a0.Bare]), (2, .obj [SS ({ data := #[] }), .nils, .nils, SS ({ data := #[] })]), (3, I64 (w64 (1 + x1))), (4, .obj [SS ({ data := #[] }), iR eDecl_0 x2, oR eRule_1 s10.1, SS ({ data := #[] })]), (5, oR eB s10.2.1), (7, I64 s10.2.2)]) 2 (fun (x11 : List Rule × List Bool) => [(1, .obj [I64 a0.Nons, iR (eM eI) a0.Rules, iR eI a0.Levels, iR eI a0.Inner, BB a0.Bare]), (2, .obj [SS ({ data := #[] }), .nils, .nils, SS ({ data := #[] })]), (3, I64 (w64 (1 + x1))), (4, .obj [SS ({ data := #[] }), iR eDecl_0 x2, oR eRule_1 x11.1, SS ({ data := #[] })]), (5, oR eB x11.2)]) hl (fun s10 o h => ?_) ?_
  · clear hl
    refine W.sq' ?_
    refine W.sq' ?_
    obtain ⟨c14, hj, h⟩ := bnd h
    refine W.rx [(1, .obj [I64 a0.Nons, iR (eM eI) a0.Rules, iR eI a0.Levels, iR eI a0.Inner, BB a0.Bare]), (2, .obj [SS ({ data := #[] }), .nils, .nils, SS ({ data := #[] })]), (3, I64 (w64 (1 + x1))), (4, .obj [SS ({ data := #[] }), iR eDecl_0 x2, oR eRule_1 s10.1, SS ({ data := #[] })]), (5, oR eB s10.2.1), (7, I64 s10.2.2), (45, BB c14)] ?_ ?_
    · refine RunL.v (O.mv (.lit rfl)) rfl rfl .none <| RunL.v (O.fO rfl (.obj rfl) fd29_1 rfl) rfl rfl .none <| RunL.v (O.ldO (y := iR (eM eI) a0.Rules) rfl (.ptr rfl) ct26 rfl rfl) rfl rfl .none <| RunL.v (O.lenI (.imm rfl) sl26) rfl rfl .none <| RunL.v (O.lss (.lit rfl) (.lit rfl)) rfl rfl .none <| RunL.v (O.mv (.lit rfl)) rfl rfl .none ?_
      rcases cnd hj with ⟨hb13, hj⟩ | ⟨hb13, hj⟩
      · obtain rfl := sm hj
        exact RunL.v (O.mv (.lit rfl)) rfl rfl (.yb rfl rfl hb13) <| RunL.v (O.lss (.lit rfl) (.k rfl)) rfl rfl (.yb rfl rfl hb13) <| RunL.v (O.pkT (.lit rfl) hb13 (.lit rfl)) rfl rfl .none <| RunL.fin (.n rfl (.n rfl (.n rfl (.n rfl (.n rfl (.n rfl (.n rfl .nil)))))))
      · obtain rfl := sm hj
        exact RunL.ps rfl rfl hb13 rfl rfl <| RunL.ps rfl rfl hb13 rfl rfl <| RunL.v (O.pkF (.lit rfl) hb13 (.k rfl)) rfl rfl .none <| RunL.fin (.n rfl (.n rfl (.n rfl (.n rfl (.n rfl (.n rfl (.n rfl .nil)))))))
    refine Px.sq ?_
    refine W.cnd rfl (fun hb15 => ?_) (fun hb15 => ?_)
    · replace h := cndT hb15 h
      refine W.sk ?_
      refine Px.sq ?_
      refine W.sq' ?_
      obtain ⟨j16, hj, h⟩ := bnd h
      refine W.jn [(1, .obj [I64 a0.Nons, iR (eM eI) a0.Rules, iR eI a0.Levels, iR eI a0.Inner, BB a0.Bare]), (2, .obj [SS ({ data := #[] }), .nils, .nils, SS ({ data := #[] })]), (3, I64 (w64 (1 + x1))), (4, .obj [SS ({ data := #[] }), iR eDecl_0 x2, oR eRule_1 j16.1, SS ({ data := #[] })]), (5, oR eB j16.2), (7, I64 s10.2.2)] ?_ ?_
      · clear h; have h := hj; clear hj
        refine W.bk ?_
        refine W.sq' ?_
        refine W.sq' ?_
        obtain ⟨x17, hx17, h⟩ := bnd h
        refine W.rx [(1, _), (2, _), (3, _), (4, _), (5, _), (7, _), (54, _)] (RunL.v (O.fO rfl (.obj rfl) fd29_1 rfl) rfl rfl .none <| RunL.v (O.ldO (y := iR (eM eI) a0.Rules) rfl (.ptr rfl) ct26 rfl rfl) rfl rfl .none <| RunL.v (O.mv (.lit rfl)) rfl rfl .none <| RunL.v (O.ixI (.imm rfl) (.lit rfl) sl26 hx17) rfl rfl .none <| RunL.v (O.ldI (x := iR eI x17) (.iptr rfl) ct27 rfl) rfl rfl .none <| RunL.v (O.lenI (.imm rfl) sl27) rfl rfl .none <| RunL.v (O.eql (.lit rfl) (.k rfl)) rfl rfl .none <| RunL.fin (.n rfl (.n rfl (.n rfl (.n rfl (.n rfl (.n rfl (.n rfl .nil)))))))) ?_
        refine Px.sq ?_
        refine W.cnd rfl (fun hb18 => ?_) (fun hb18 => ?_)
        · replace h := cndT hb18 h
          refine W.xi ?_
          refine Px.sqE ?_
          refine Px.bkH ?_
          obtain rfl := sm h
          exact Px.jn (.n rfl (.n rfl (.n rfl (.n rfl (.n rfl (.n rfl .nil))))))
        · replace h := cndF hb18 h
          refine W.sk ?_
          refine Px.sq ?_
          refine W.sq' ?_
          obtain ⟨x19, hx19, h⟩ := bnd h
          obtain ⟨x20, hx20, h⟩ := bnd h
          obtain ⟨x21, hx21, h⟩ := bnd h
          refine W.rx [(1, _), (2, _), (3, _), (4, _), (5, _), (7, _), (8, _)] (RunL.v (O.fO rfl (.obj rfl) fd29_1 rfl) rfl rfl .none <| RunL.v (O.ldO (y := iR (eM eI) a0.Rules) rfl (.ptr rfl) ct26 rfl rfl) rfl rfl .none <| RunL.v (O.mv (.lit rfl)) rfl rfl .none <| RunL.v (O.ixI (.imm rfl) (.lit rfl) sl26 hx19) rfl rfl .none <| RunL.v (O.ldI (x := iR eI x19) (.iptr rfl) ct27 rfl) rfl rfl .none <| RunL.v (O.ixI (.imm rfl) (.k rfl) sl27 hx20) rfl rfl .none <| RunL.v (O.ldI (x := I64 x20) (.iptr rfl) ct3 rfl) rfl rfl .none <| RunL.v (O.mv (.lit rfl)) rfl rfl .none <| RunL.c (PC.go (.cc (.lit rfl) (.cc (.lit rfl) .nil)) (con25 x20 (w64 (1 + x1)) _ hx21) call25 rfl) rfl rfl .none <| RunL.v (O.as (.lit rfl)) rfl rfl .none <| RunL.fin (.n rfl (.n rfl (.n rfl (.n rfl (.n rfl (.n rfl (.n rfl .nil)))))))) ?_
          refine Px.sq ?_
          refine W.sq' ?_
          refine W.rx [(1, _), (2, _), (3, _), (4, _), (5, _), (7, _), (8, _), (9, _)] (RunL.v (O.al (cs := [.nils, SS ({ data := #[] }), BB false, I64 0, I64 0, I64 0]) ze98 rfl rfl) rfl rfl .none <| RunL.fin (.n rfl (.n rfl (.n rfl (.n rfl (.n rfl (.n rfl (.n rfl (.n rfl .nil))))))))) ?_
          refine Px.sq ?_
          refine W.sq' ?_
          refine W.rx [(1, _), (2, _), (3, _), (4, _), (5, _), (7, _), (8, _), (9, _), (10, _)] (RunL.v (O.as (.k rfl)) rfl rfl .none <| RunL.fin (.n rfl (.n rfl (.n rfl (.n rfl (.n rfl (.n rfl (.n rfl (.n rfl (.n rfl .nil)))))))))) ?_
          refine Px.sq ?_
          refine W.sq' ?_
          refine W.sq' ?_
          refine W.rx [(1, _), (2, _), (3, _), (4, _), (5, _), (7, _), (8, _), (9, _), (10, _), (11, _)] (RunL.v (O.as (.k rfl)) rfl rfl .none <| RunL.fin (.n rfl (.n rfl (.n rfl (.n rfl (.n rfl (.n rfl (.n rfl (.n rfl (.n rfl (.n rfl .nil))))))))))) ?_
          refine Px.sq ?_
          refine W.bk ?_
          obtain ⟨x23, hl, h⟩ := bnd h
          refine W.tr (G1 := [(1, .obj [I64 a0.Nons, iR (eM eI) a0.Rules, iR eI a0.Levels, iR eI a0.Inner, BB a0.Bare]), (2, .obj [SS ({ data := #[] }), .nils, .nils, SS ({ data := #[] })]), (3, I64 (w64 (1 + x1))), (4, .obj [SS ({ data := #[] }), iR eDecl_0 x2, oR eRule_1 s10.1, SS ({ data := #[] })]), (5, oR eB s10.2.1), (7, I64 s10.2.2), (8, I64 x21), (9, .obj [oR ePart ([] : List Part), SS ({ data := #[] }), BB false, I64 0, I64 0, I64 0]), (10, BB true), (11, I64 1)]) (.n rfl (.n rfl (.n rfl (.n rfl (.n rfl (.n rfl (.n rfl (.w rfl rfl (WkL.obj (.o (.f (.f (.f (.f (.f .nil))))))) (.n rfl (.n rfl .nil)))))))))) ?_
          refine W.lp1 (s := (([] : List Part), true, 1)) (fun (s22 : List Part × Bool × Int) => [(1, .obj [I64 a0.Nons, iR (eM eI) a0.Rules, iR eI a0.Levels, iR eI a0.Inner, BB a0.Bare]), (2, .obj [SS ({ data := #[] }), .nils, .nils, SS ({ data := #[] })]), (3, I64 (w64 (1 + x1))), (4, .obj [SS ({ data := #[] }), iR eDecl_0 x2, oR eRule_1 s10.1, SS ({ data := #[] })]), (5, oR eB s10.2.1), (7, I64 s10.2.2), (8, I64 x21), (9, .obj [oR ePart s22.1, SS ({ data := #[] }), BB false, I64 0, I64 0, I64 0]), (10, BB s22.2.1), (11, I64 s22.2.2)]) 4 (fun (x23 : List Part × Bool) => [(1, .obj [I64 a0.Nons, iR (eM eI) a0.Rules, iR eI a0.Levels, iR eI a0.Inner, BB a0.Bare]), (2, .obj [SS ({ data := #[] }), .nils, .nils, SS ({ data := #[] })]), (3, I64 (w64 (1 + x1))), (4, .obj [SS ({ data := #[] }), iR eDecl_0 x2, oR eRule_1 s10.1, SS ({ data := #[] })]), (5, oR eB s10.2.1), (7, I64 s10.2.2), (8, I64 x21), (9, .obj [oR ePart x23.1, SS ({ data := #[] }), BB false, I64 0, I64 0, I64 0]), (10, BB x23.2)]) hl (fun s22 o h => ?_) ?_
          · clear hl
            refine W.sq' ?_
            refine W.sq' ?_
            obtain ⟨c27, hj, h⟩ := bnd h
            refine W.rx [(1, .obj [I64 a0.Nons, iR (eM eI) a0.Rules, iR eI a0.Levels, iR eI a0.Inner, BB a0.Bare]), (2, .obj [SS ({ data := #[] }), .nils, .nils, SS ({ data := #[] })]), (3, I64 (w64 (1 + x1))), (4, .obj [SS ({ data := #[] }), iR eDecl_0 x2, oR eRule_1 s10.1, SS ({ data := #[] })]), (5, oR eB s10.2.1), (7, I64 s10.2.2), (8, I64 x21), (9, .obj [oR ePart s22.1, SS ({ data := #[] }), BB false, I64 0, I64 0, I64 0]), (10, BB s22.2.1), (11, I64 s22.2.2), (75, BB c27)] ?_ ?_
            · refine RunL.v (O.mv (.lit rfl)) rfl rfl .none <| RunL.v (O.fO rfl (.obj rfl) fd29_1 rfl) rfl rfl .none <| RunL.v (O.ldO (y := iR (eM eI) a0.Rules) rfl (.ptr rfl) ct26 rfl rfl) rfl rfl .none <| RunL.v (O.mv (.lit rfl)) rfl rfl .none ?_
              obtain ⟨x25, hx25, hj⟩ := bnd hj
              refine RunL.v (O.ixI (.imm rfl) (.lit rfl) sl26 hx25) rfl rfl .none <| RunL.v (O.ldI (x := iR eI x25) (.iptr rfl) ct27 rfl) rfl rfl .none <| RunL.v (O.lenI (.imm rfl) sl27) rfl rfl .none <| RunL.v (O.lss (.lit rfl) (.lit rfl)) rfl rfl .none <| RunL.v (O.mv (.lit rfl)) rfl rfl .none ?_
              rcases cnd hj with ⟨hb26, hj⟩ | ⟨hb26, hj⟩
              · obtain rfl := sm hj
                exact RunL.v (O.mv (.lit rfl)) rfl rfl (.yb rfl rfl hb26) <| RunL.v (O.lss (.lit rfl) (.k rfl)) rfl rfl (.yb rfl rfl hb26) <| RunL.v (O.pkT (.lit rfl) hb26 (.lit rfl)) rfl rfl .none <| RunL.fin (.n rfl (.n rfl (.n rfl (.n rfl (.n rfl (.n rfl (.n rfl (.n rfl (.n rfl (.n rfl (.n rfl .nil)))))))))))
              · obtain rfl := sm hj
                exact RunL.ps rfl rfl hb26 rfl rfl <| RunL.ps rfl rfl hb26 rfl rfl <| RunL.v (O.pkF (.lit rfl) hb26 (.k rfl)) rfl rfl .none <| RunL.fin (.n rfl (.n rfl (.n rfl (.n rfl (.n rfl (.n rfl (.n rfl (.n rfl (.n rfl (.n rfl (.n rfl .nil)))))))))))
            refine Px.sq ?_
            refine W.cnd rfl (fun hb28 => ?_) (fun hb28 => ?_)
            · replace h := cndT hb28 h
              refine W.sk ?_
              refine Px.sq ?_
              refine W.sq' ?_
              obtain ⟨j29, hj, h⟩ := bnd h
              refine W.jn [(1, .obj [I64 a0.Nons, iR (eM eI) a0.Rules, iR eI a0.Levels, iR eI a0.Inner, BB a0.Bare]), (2, .obj [SS ({ data := #[] }), .nils, .nils, SS ({ data := #[] })]), (3, I64 (w64 (1 + x1))), (4, .obj [SS ({ data := #[] }), iR eDecl_0 x2, oR eRule_1 s10.1, SS ({ data := #[] })]), (5, oR eB s10.2.1), (7, I64 s10.2.2), (8, I64 x21), (9, .obj [oR ePart j29.1, SS ({ data := #[] }), BB false, I64 0, I64 0, I64 0]), (10, BB j29.2), (11, I64 s22.2.2)] ?_ ?_
              · clear h; have h := hj; clear hj
                refine W.bk ?_
                refine W.sq' ?_
                obtain ⟨x30, hx30, h⟩ := bnd h
                obtain ⟨x31, hx31, h⟩ := bnd h
                obtain ⟨x32, hx32, h⟩ := bnd h
                refine W.rx [(1, _), (2, _), (3, _), (4, _), (5, _), (7, _), (8, _), (9, _), (10, _), (11, _), (12, _)] (RunL.v (O.fO rfl (.obj rfl) fd29_1 rfl) rfl rfl .none <| RunL.v (O.ldO (y := iR (eM eI) a0.Rules) rfl (.ptr rfl) ct26 rfl rfl) rfl rfl .none <| RunL.v (O.mv (.lit rfl)) rfl rfl .none <| RunL.v (O.ixI (.imm rfl) (.lit rfl) sl26 hx30) rfl rfl .none <| RunL.v (O.ldI (x := iR eI x30) (.iptr rfl) ct27 rfl) rfl rfl .none <| RunL.v (O.mv (.lit rfl)) rfl rfl .none <| RunL.v (O.ixI (.imm rfl) (.lit rfl) sl27 hx31) rfl rfl .none <| RunL.v (O.ldI (x := I64 x31) (.iptr rfl) ct3 rfl) rfl rfl .none <| RunL.v (O.mv (.lit rfl)) rfl rfl .none <| RunL.c (PC.go (.cc (.lit rfl) (.cc (.lit rfl) .nil)) (con48 x31 (w64 (1 + x1)) _ hx32) call48 rfl) rfl rfl .none <| RunL.v (O.al (cs := [SS ({ data := #[] }), BB false, I64 0, I64 0]) ze91 rfl rfl) rfl rfl .none <| RunL.sO (G2 := [(1, .obj [I64 a0.Nons, iR (eM eI) a0.Rules, iR eI a0.Levels, iR eI a0.Inner, BB a0.Bare]), (2, .obj [SS ({ data := #[] }), .nils, .nils, SS ({ data := #[] })]), (3, I64 (w64 (1 + x1))), (4, .obj [SS ({ data := #[] }), iR eDecl_0 x2, oR eRule_1 s10.1, SS ({ data := #[] })]), (5, oR eB s10.2.1), (7, I64 s10.2.2), (8, I64 x21), (9, .obj [oR ePart s22.1, SS ({ data := #[] }), BB false, I64 0, I64 0, I64 0]), (10, BB s22.2.1), (11, I64 s22.2.2), (12, .obj [SS x32.Name, BB x32.Lit, I64 x32.Num, I64 x32.At])]) (cs2 := [SS x32.Name, BB x32.Lit, I64 x32.Num, I64 x32.At]) rfl (.obj rfl) (.aggF rfl rfl) rfl sz91 rfl rfl rfl rfl (.n rfl rfl (.n rfl rfl (.n rfl rfl (.n rfl rfl (.n rfl rfl (.n rfl rfl (.n rfl rfl (.n rfl rfl (.n rfl rfl (.n rfl rfl (.b rfl .nil))))))))))) <| RunL.fin (.n rfl (.n rfl (.n rfl (.n rfl (.n rfl (.n rfl (.n rfl (.n rfl (.n rfl (.n rfl (.n rfl .nil)))))))))))) ?_
                refine Px.sq ?_
                refine W.sq' ?_
                obtain ⟨c35, hj, h⟩ := bnd h
                refine W.rx [(1, .obj [I64 a0.Nons, iR (eM eI) a0.Rules, iR eI a0.Levels, iR eI a0.Inner, BB a0.Bare]), (2, .obj [SS ({ data := #[] }), .nils, .nils, SS ({ data := #[] })]), (3, I64 (w64 (1 + x1))), (4, .obj [SS ({ data := #[] }), iR eDecl_0 x2, oR eRule_1 s10.1, SS ({ data := #[] })]), (5, oR eB s10.2.1), (7, I64 s10.2.2), (8, I64 x21), (9, .obj [oR ePart s22.1, SS ({ data := #[] }), BB false, I64 0, I64 0, I64 0]), (10, BB c35), (11, I64 s22.2.2), (12, .obj [SS x32.Name, BB x32.Lit, I64 x32.Num, I64 x32.At])] ?_ ?_
                · refine RunL.v (O.mv (.lit rfl)) rfl rfl .none <| RunL.v (O.mv (.lit rfl)) rfl rfl .none ?_
                  rcases cnd hj with ⟨hb33, hj⟩ | ⟨hb33, hj⟩
                  · refine RunL.v (O.fO rfl (.obj rfl) fd91_1 rfl) rfl rfl (.yb rfl rfl hb33) <| RunL.v (O.ldO (y := BB x32.Lit) rfl (.ptr rfl) ct4 rfl rfl) rfl rfl (.yb rfl rfl hb33) <| RunL.v (O.mv (.lit rfl)) rfl rfl (.yb rfl rfl hb33) ?_
                    rcases cnd hj with ⟨hb34, hj⟩ | ⟨hb34, hj⟩
                    · obtain rfl := sm hj
                      exact RunL.ps rfl rfl hb34 rfl rfl <| RunL.ps rfl rfl hb34 rfl rfl <| RunL.ps rfl rfl hb34 rfl rfl <| RunL.v (O.pkT (.lit rfl) hb34 (.k rfl)) rfl rfl (.yb rfl rfl hb33) <| RunL.v (O.pkT (.lit rfl) hb33 (.lit rfl)) rfl rfl .none <| RunL.re (G1 := [(1, .obj [I64 a0.Nons, iR (eM eI) a0.Rules, iR eI a0.Levels, iR eI a0.Inner, BB a0.Bare]), (2, .obj [SS ({ data := #[] }), .nils, .nils, SS ({ data := #[] })]), (3, I64 (w64 (1 + x1))), (4, .obj [SS ({ data := #[] }), iR eDecl_0 x2, oR eRule_1 s10.1, SS ({ data := #[] })]), (5, oR eB s10.2.1), (7, I64 s10.2.2), (8, I64 x21), (9, .obj [oR ePart s22.1, SS ({ data := #[] }), BB false, I64 0, I64 0, I64 0]), (11, I64 s22.2.2), (12, .obj [SS x32.Name, BB x32.Lit, I64 x32.Num, I64 x32.At]), (97, BB true)]) (.n rfl (.n rfl (.n rfl (.n rfl (.n rfl (.n rfl (.n rfl (.n rfl (.n rfl (.n rfl (.n rfl .nil))))))))))) <| RunL.v (O.as (.lit rfl)) rfl rfl .none <| RunL.fin (.n rfl (.n rfl (.n rfl (.n rfl (.n rfl (.n rfl (.n rfl (.n rfl (.n rfl (.n rfl (.n rfl .nil)))))))))))
                    · obtain rfl := sm hj
                      exact RunL.v (O.fO rfl (.obj rfl) fd91_0 rfl) rfl rfl (.yb rfl rfl hb34) <| RunL.v (O.ldO (y := SS x32.Name) rfl (.ptr rfl) ct9 rfl rfl) rfl rfl (.yb rfl rfl hb34) <| RunL.v (O.eqS (.lit rfl) (.k rfl)) rfl rfl (.yb rfl rfl hb34) <| RunL.v (O.pkF (.lit rfl) hb34 (.lit rfl)) rfl rfl (.yb rfl rfl hb33) <| RunL.v (O.pkT (.lit rfl) hb33 (.lit rfl)) rfl rfl .none <| RunL.re (G1 := [(1, .obj [I64 a0.Nons, iR (eM eI) a0.Rules, iR eI a0.Levels, iR eI a0.Inner, BB a0.Bare]), (2, .obj [SS ({ data := #[] }), .nils, .nils, SS ({ data := #[] })]), (3, I64 (w64 (1 + x1))), (4, .obj [SS ({ data := #[] }), iR eDecl_0 x2, oR eRule_1 s10.1, SS ({ data := #[] })]), (5, oR eB s10.2.1), (7, I64 s10.2.2), (8, I64 x21), (9, .obj [oR ePart s22.1, SS ({ data := #[] }), BB false, I64 0, I64 0, I64 0]), (11, I64 s22.2.2), (12, .obj [SS x32.Name, BB x32.Lit, I64 x32.Num, I64 x32.At]), (97, BB (decide (x32.Name = { data := #[101, 114, 114, 111, 114] })))]) (.n rfl (.n rfl (.n rfl (.n rfl (.n rfl (.n rfl (.n rfl (.n rfl (.n rfl (.n rfl (.n rfl .nil))))))))))) <| RunL.v (O.as (.lit rfl)) rfl rfl .none <| RunL.fin (.n rfl (.n rfl (.n rfl (.n rfl (.n rfl (.n rfl (.n rfl (.n rfl (.n rfl (.n rfl (.n rfl .nil)))))))))))
                  · obtain rfl := sm hj
                    exact RunL.ps rfl rfl hb33 rfl rfl <| RunL.ps rfl rfl hb33 rfl rfl <| RunL.ps rfl rfl hb33 rfl rfl <| RunL.pu rfl rfl rfl rfl <| RunL.pu rfl rfl rfl rfl <| RunL.pu rfl rfl rfl rfl <| RunL.ps rfl rfl hb33 rfl rfl <| RunL.v (O.pkF (.lit rfl) hb33 (.k rfl)) rfl rfl .none <| RunL.re (G1 := [(1, .obj [I64 a0.Nons, iR (eM eI) a0.Rules, iR eI a0.Levels, iR eI a0.Inner, BB a0.Bare]), (2, .obj [SS ({ data := #[] }), .nils, .nils, SS ({ data := #[] })]), (3, I64 (w64 (1 + x1))), (4, .obj [SS ({ data := #[] }), iR eDecl_0 x2, oR eRule_1 s10.1, SS ({ data := #[] })]), (5, oR eB s10.2.1), (7, I64 s10.2.2), (8, I64 x21), (9, .obj [oR ePart s22.1, SS ({ data := #[] }), BB false, I64 0, I64 0, I64 0]), (11, I64 s22.2.2), (12, .obj [SS x32.Name, BB x32.Lit, I64 x32.Num, I64 x32.At]), (97, BB false)]) (.n rfl (.n rfl (.n rfl (.n rfl (.n rfl (.n rfl (.n rfl (.n rfl (.n rfl (.n rfl (.n rfl .nil))))))))))) <| RunL.v (O.as (.lit rfl)) rfl rfl .none <| RunL.fin (.n rfl (.n rfl (.n rfl (.n rfl (.n rfl (.n rfl (.n rfl (.n rfl (.n rfl (.n rfl (.n rfl .nil)))))))))))
                refine Px.sq ?_
                refine W.sq' ?_
                obtain ⟨x36, hx36, h⟩ := bnd h
                refine W.rx [(1, _), (2, _), (3, _), (4, _), (5, _), (7, _), (8, _), (9, _), (10, _), (11, _)] (RunL.v (O.fO rfl (.obj rfl) fd98_0 rfl) rfl rfl .none <| RunL.v (O.ldO (y := .brw ePart.z ⟨9, [0]⟩ s22.1.length) rfl (.ptr rfl) ct96 rfl rfl) rfl rfl .none <| RunL.v (O.ldON (cs' := [SS x32.Name, BB x32.Lit, I64 x32.Num, I64 x32.At]) rfl (.obj rfl) at91 rfl rfl) rfl rfl .none <| RunL.v (O.bu (cs := [SS x32.Name, BB x32.Lit, I64 x32.Num, I64 x32.At, SS ({ data := #[] }), I64 0]) sc100 ze100 rfl rfl rfl) rfl rfl .none <| RunL.vi (x := iR ePart [(⟨x32, { data := #[] }, 0⟩ : Part)]) (O.bs (ys := [.agg [SS x32.Name, BB x32.Lit, I64 x32.Num, I64 x32.At, SS ({ data := #[] }), I64 0]]) ePart [(⟨x32, { data := #[] }, 0⟩ : Part)] sl96 rfl rfl rfl rfl rfl rfl zt100 rfl rfl) rfl rfl .none <| RunL.v (O.ap (en := ePart) (r := x36) (.brw rfl) rfl (.imm rfl) .i ap96 rfl hx36) rfl rfl .none <| RunL.v (O.fO rfl (.obj rfl) fd98_0 rfl) rfl rfl .none <| RunL.ef (G2 := [(1, .obj [I64 a0.Nons, iR (eM eI) a0.Rules, iR eI a0.Levels, iR eI a0.Inner, BB a0.Bare]), (2, .obj [SS ({ data := #[] }), .nils, .nils, SS ({ data := #[] })]), (3, I64 (w64 (1 + x1))), (4, .obj [SS ({ data := #[] }), iR eDecl_0 x2, oR eRule_1 s10.1, SS ({ data := #[] })]), (5, oR eB s10.2.1), (7, I64 s10.2.2), (8, I64 x21), (9, .obj [oR ePart (s22.1 ++ [(⟨x32, { data := #[] }, 0⟩ : Part)]), SS ({ data := #[] }), BB false, I64 0, I64 0, I64 0]), (10, BB c35), (11, I64 s22.2.2)]) rfl (EO.stP (g1 := _) (en := ePart) (M := [(⟨x32, { data := #[] }, 0⟩ : Part)]) (cs2 := [oR ePart (s22.1 ++ [(⟨x32, { data := #[] }, 0⟩ : Part)]), SS ({ data := #[] }), BB false, I64 0, I64 0, I64 0]) rfl rfl (.ptr rfl) (.pend rfl) rfl rfl rfl .ns .rf rfl rfl sz96 rfl rfl rfl rfl (.n rfl rfl (.n rfl rfl (.n rfl rfl (.n rfl rfl (.n rfl rfl (.n rfl rfl (.n rfl rfl (.b rfl (.n rfl rfl (.n rfl rfl .nil))))))))))) <| RunL.fin (.n rfl (.n rfl (.n rfl (.n rfl (.n rfl (.n rfl (.n rfl (.n rfl (.n rfl (.n rfl .nil))))))))))) ?_
                refine Px.sq ?_
                refine W.sq' ?_
                obtain ⟨c41, hj, h⟩ := bnd h
                refine W.rx [(1, .obj [I64 a0.Nons, iR (eM eI) a0.Rules, iR eI a0.Levels, iR eI a0.Inner, BB a0.Bare]), (2, .obj [SS ({ data := #[] }), .nils, .nils, SS ({ data := #[] })]), (3, I64 (w64 (1 + x1))), (4, .obj [SS ({ data := #[] }), iR eDecl_0 x2, oR eRule_1 s10.1, SS ({ data := #[] })]), (5, oR eB s10.2.1), (7, I64 s10.2.2), (8, I64 x21), (9, .obj [oR ePart (s22.1 ++ [(⟨x32, { data := #[] }, 0⟩ : Part)]), SS ({ data := #[] }), BB false, I64 0, I64 0, I64 0]), (10, BB c35), (11, I64 s22.2.2), (122, BB c41)] ?_ ?_
                · refine RunL.v (O.mv (.lit rfl)) rfl rfl .none <| RunL.v (O.fO rfl (.obj rfl) fd29_3 rfl) rfl rfl .none <| RunL.v (O.ldO (y := iR eI a0.Inner) rfl (.ptr rfl) ct27 rfl rfl) rfl rfl .none <| RunL.v (O.lenI (.imm rfl) sl27) rfl rfl .none <| RunL.v (O.lss (.lit rfl) (.lit rfl)) rfl rfl .none <| RunL.v (O.mv (.lit rfl)) rfl rfl .none ?_
                  rcases cnd hj with ⟨hb37, hj⟩ | ⟨hb37, hj⟩
                  · refine RunL.v (O.mv (.lit rfl)) rfl rfl (.yb rfl rfl hb37) <| RunL.v (O.eql (.lit rfl) (.k rfl)) rfl rfl (.yb rfl rfl hb37) <| RunL.v (O.pkT (.lit rfl) hb37 (.lit rfl)) rfl rfl .none <| RunL.v (O.mv (.lit rfl)) rfl rfl .none ?_
                    rcases cnd hj with ⟨hb38, hj⟩ | ⟨hb38, hj⟩
                    · refine RunL.v (O.fO rfl (.obj rfl) fd29_3 rfl) rfl rfl (.yb rfl rfl hb38) <| RunL.v (O.ldO (y := iR eI a0.Inner) rfl (.ptr rfl) ct27 rfl rfl) rfl rfl (.yb rfl rfl hb38) <| RunL.v (O.mv (.lit rfl)) rfl rfl (.yb rfl rfl hb38) ?_
                      obtain ⟨x39, hx39, hj⟩ := bnd hj
                      refine RunL.v (O.ixI (.imm rfl) (.lit rfl) sl27 hx39) rfl rfl (.yb rfl rfl hb38) <| RunL.v (O.ldI (x := I64 x39) (.iptr rfl) ct3 rfl) rfl rfl (.yb rfl rfl hb38) ?_
                      obtain ⟨x40, hx40, hj⟩ := bnd hj
                      obtain rfl := sm hj
                      exact RunL.v (O.rem (.lit rfl) (.k rfl) hx40) rfl rfl (.yb rfl rfl hb38) <| RunL.v (O.eql (.lit rfl) (.k rfl)) rfl rfl (.yb rfl rfl hb38) <| RunL.v (O.pkT (.lit rfl) hb38 (.lit rfl)) rfl rfl .none <| RunL.fin (.n rfl (.n rfl (.n rfl (.n rfl (.n rfl (.n rfl (.n rfl (.n rfl (.n rfl (.n rfl (.n rfl .nil)))))))))))
                    · obtain rfl := sm hj
                      exact RunL.ps rfl rfl hb38 rfl rfl <| RunL.ps rfl rfl hb38 rfl rfl <| RunL.ps rfl rfl hb38 rfl rfl <| RunL.ps rfl rfl hb38 rfl rfl <| RunL.ps rfl rfl hb38 rfl rfl <| RunL.ps rfl rfl hb38 rfl rfl <| RunL.ps rfl rfl hb38 rfl rfl <| RunL.v (O.pkF (.lit rfl) hb38 (.k rfl)) rfl rfl .none <| RunL.fin (.n rfl (.n rfl (.n rfl (.n rfl (.n rfl (.n rfl (.n rfl (.n rfl (.n rfl (.n rfl (.n rfl .nil)))))))))))
                  · obtain rfl := sm hj
                    exact RunL.ps rfl rfl hb37 rfl rfl <| RunL.ps rfl rfl hb37 rfl rfl <| RunL.v (O.pkF (.lit rfl) hb37 (.k rfl)) rfl rfl .none <| RunL.v (O.mv (.lit rfl)) rfl rfl .none <| RunL.ps rfl rfl rfl rfl rfl <| RunL.ps rfl rfl rfl rfl rfl <| RunL.ps rfl rfl rfl rfl rfl <| RunL.ps rfl rfl rfl rfl rfl <| RunL.ps rfl rfl rfl rfl rfl <| RunL.ps rfl rfl rfl rfl rfl <| RunL.ps rfl rfl rfl rfl rfl <| RunL.v (O.pkF (.lit rfl) rfl (.k rfl)) rfl rfl .none <| RunL.fin (.n rfl (.n rfl (.n rfl (.n rfl (.n rfl (.n rfl (.n rfl (.n rfl (.n rfl (.n rfl (.n rfl .nil)))))))))))
                refine Px.sq ?_
                obtain ⟨j42, hj, h⟩ := bnd h
                refine W.jn [(1, .obj [I64 a0.Nons, iR (eM eI) a0.Rules, iR eI a0.Levels, iR eI a0.Inner, BB a0.Bare]), (2, .obj [SS ({ data := #[] }), .nils, .nils, SS ({ data := #[] })]), (3, I64 (w64 (1 + x1))), (4, .obj [SS ({ data := #[] }), iR eDecl_0 x2, oR eRule_1 s10.1, SS ({ data := #[] })]), (5, oR eB s10.2.1), (7, I64 s10.2.2), (8, I64 x21), (9, .obj [oR ePart j42, SS ({ data := #[] }), BB false, I64 0, I64 0, I64 0]), (10, BB c35), (11, I64 s22.2.2)] ?_ ?_
                · clear h; have h := hj; clear hj
                  refine W.cnd rfl (fun hb43 => ?_) (fun hb43 => ?_)
                  · replace h := cndT hb43 h
                    obtain ⟨x44, hx44, h⟩ := bnd h
                    refine W.rx [(1, _), (2, _), (3, _), (4, _), (5, _), (7, _), (8, _), (9, _), (10, _), (11, _)] (RunL.v (O.fO rfl (.obj rfl) fd98_0 rfl) rfl rfl .none <| RunL.v (O.ldO (y := .brw ePart.z ⟨9, [0]⟩ (s22.1 ++ [(⟨x32, { data := #[] }, 0⟩ : Part)]).length) rfl (.ptr rfl) ct96 rfl rfl) rfl rfl .none <| RunL.v (O.bu (cs := [SS ({ data := #[] }), BB false, I64 0, I64 0, SS ({ data := #[123, 36, 36, 32, 61, 32, 36, 49, 125] }), I64 0]) sc100 ze100 rfl rfl rfl) rfl rfl .none <| RunL.vi (x := iR ePart [(⟨(⟨{ data := #[] }, false, 0, 0⟩ : Sym), { data := #[123, 36, 36, 32, 61, 32, 36, 49, 125] }, 0⟩ : Part)]) (O.bs (ys := [.agg [SS ({ data := #[] }), BB false, I64 0, I64 0, SS ({ data := #[123, 36, 36, 32, 61, 32, 36, 49, 125] }), I64 0]]) ePart [(⟨(⟨{ data := #[] }, false, 0, 0⟩ : Sym), { data := #[123, 36, 36, 32, 61, 32, 36, 49, 125] }, 0⟩ : Part)] sl96 rfl rfl rfl rfl rfl rfl zt100 rfl rfl) rfl rfl .none <| RunL.v (O.ap (en := ePart) (r := x44) (.brw rfl) rfl (.imm rfl) .i ap96 rfl hx44) rfl rfl .none <| RunL.v (O.fO rfl (.obj rfl) fd98_0 rfl) rfl rfl .none <| RunL.ef (G2 := [(1, .obj [I64 a0.Nons, iR (eM eI) a0.Rules, iR eI a0.Levels, iR eI a0.Inner, BB a0.Bare]), (2, .obj [SS ({ data := #[] }), .nils, .nils, SS ({ data := #[] })]), (3, I64 (w64 (1 + x1))), (4, .obj [SS ({ data := #[] }), iR eDecl_0 x2, oR eRule_1 s10.1, SS ({ data := #[] })]), (5, oR eB s10.2.1), (7, I64 s10.2.2), (8, I64 x21), (9, .obj [oR ePart ((s22.1 ++ [(⟨x32, { data := #[] }, 0⟩ : Part)]) ++ [(⟨(⟨{ data := #[] }, false, 0, 0⟩ : Sym), { data := #[123, 36, 36, 32, 61, 32, 36, 49, 125] }, 0⟩ : Part)]), SS ({ data := #[] }), BB false, I64 0, I64 0, I64 0]), (10, BB c35), (11, I64 s22.2.2)]) rfl (EO.stP (g1 := _) (en := ePart) (M := [(⟨(⟨{ data := #[] }, false, 0, 0⟩ : Sym), { data := #[123, 36, 36, 32, 61, 32, 36, 49, 125] }, 0⟩ : Part)]) (cs2 := [oR ePart ((s22.1 ++ [(⟨x32, { data := #[] }, 0⟩ : Part)]) ++ [(⟨(⟨{ data := #[] }, false, 0, 0⟩ : Sym), { data := #[123, 36, 36, 32, 61, 32, 36, 49, 125] }, 0⟩ : Part)]), SS ({ data := #[] }), BB false, I64 0, I64 0, I64 0]) rfl rfl (.ptr rfl) (.pend rfl) rfl rfl rfl .ns .rf rfl rfl sz96 rfl rfl rfl rfl (.n rfl rfl (.n rfl rfl (.n rfl rfl (.n rfl rfl (.n rfl rfl (.n rfl rfl (.n rfl rfl (.b rfl (.n rfl rfl (.n rfl rfl .nil))))))))))) <| RunL.fin (.n rfl (.n rfl (.n rfl (.n rfl (.n rfl (.n rfl (.n rfl (.n rfl (.n rfl (.n rfl .nil))))))))))) ?_
                    obtain rfl := sm h
                    exact Px.jn (.n rfl (.n rfl (.n rfl (.n rfl (.n rfl (.n rfl (.n rfl (.n rfl (.n rfl (.n rfl .nil))))))))))
                  · replace h := cndF hb43 h
                    refine W.sk ?_
                    obtain rfl := sm h
                    exact Px.jn (.n rfl (.n rfl (.n rfl (.n rfl (.n rfl (.n rfl (.n rfl (.n rfl (.n rfl (.n rfl .nil))))))))))
                refine Px.bk ?_
                obtain rfl := sm h
                exact Px.jn (.n rfl (.n rfl (.n rfl (.n rfl (.n rfl (.n rfl (.n rfl (.n rfl (.n rfl (.n rfl .nil))))))))))
              refine Px.sq ?_
              refine W.rx [(1, _), (2, _), (3, _), (4, _), (5, _), (7, _), (8, _), (9, _), (10, _), (11, _)] (RunL.v (O.mv (.lit rfl)) rfl rfl .none <| RunL.v (O.add (.lit rfl) (.k rfl)) rfl rfl .none <| RunL.re (G1 := [(1, .obj [I64 a0.Nons, iR (eM eI) a0.Rules, iR eI a0.Levels, iR eI a0.Inner, BB a0.Bare]), (2, .obj [SS ({ data := #[] }), .nils, .nils, SS ({ data := #[] })]), (3, I64 (w64 (1 + x1))), (4, .obj [SS ({ data := #[] }), iR eDecl_0 x2, oR eRule_1 s10.1, SS ({ data := #[] })]), (5, oR eB s10.2.1), (7, I64 s10.2.2), (8, I64 x21), (9, .obj [oR ePart j29.1, SS ({ data := #[] }), BB false, I64 0, I64 0, I64 0]), (10, BB j29.2), (77, I64 (w64 (s22.2.2 + 1)))]) (.n rfl (.n rfl (.n rfl (.n rfl (.n rfl (.n rfl (.n rfl (.n rfl (.n rfl (.n rfl .nil)))))))))) <| RunL.v (O.as (.lit rfl)) rfl rfl .none <| RunL.fin (.n rfl (.n rfl (.n rfl (.n rfl (.n rfl (.n rfl (.n rfl (.n rfl (.n rfl (.n rfl .nil))))))))))) ?_
              obtain rfl := sm h
              exact Px.go (.n rfl (.n rfl (.n rfl (.n rfl (.n rfl (.n rfl (.n rfl (.n rfl (.n rfl (.n rfl .nil))))))))))
            · replace h := cndF hb28 h
              refine W.xi ?_
              refine Px.sqE ?_
              obtain rfl := sm h
              exact Px.x1 (.n rfl (.n rfl (.n rfl (.n rfl (.n rfl (.n rfl (.n rfl (.n rfl (.n rfl .nil)))))))))
          refine Px.bkH ?_
          refine Px.sq ?_
          refine W.sq' ?_
          refine W.sq' ?_
          obtain ⟨c48, hj, h⟩ := bnd h
          refine W.rx [(1, .obj [I64 a0.Nons, iR (eM eI) a0.Rules, iR eI a0.Levels, iR eI a0.Inner, BB a0.Bare]), (2, .obj [SS ({ data := #[] }), .nils, .nils, SS ({ data := #[] })]), (3, I64 (w64 (1 + x1))), (4, .obj [SS ({ data := #[] }), iR eDecl_0 x2, oR eRule_1 s10.1, SS ({ data := #[] })]), (5, oR eB s10.2.1), (7, I64 s10.2.2), (8, I64 x21), (9, .obj [oR ePart x23.1, SS ({ data := #[] }), BB false, I64 0, I64 0, I64 0]), (10, BB x23.2), (142, BB c48)] ?_ ?_
          · refine RunL.v (O.mv (.lit rfl)) rfl rfl .none <| RunL.v (O.fO rfl (.obj rfl) fd29_3 rfl) rfl rfl .none <| RunL.v (O.ldO (y := iR eI a0.Inner) rfl (.ptr rfl) ct27 rfl rfl) rfl rfl .none <| RunL.v (O.lenI (.imm rfl) sl27) rfl rfl .none <| RunL.v (O.lss (.lit rfl) (.lit rfl)) rfl rfl .none <| RunL.v (O.mv (.lit rfl)) rfl rfl .none ?_
            rcases cnd hj with ⟨hb45, hj⟩ | ⟨hb45, hj⟩
            · refine RunL.v (O.fO rfl (.obj rfl) fd29_3 rfl) rfl rfl (.yb rfl rfl hb45) <| RunL.v (O.ldO (y := iR eI a0.Inner) rfl (.ptr rfl) ct27 rfl rfl) rfl rfl (.yb rfl rfl hb45) <| RunL.v (O.mv (.lit rfl)) rfl rfl (.yb rfl rfl hb45) ?_
              obtain ⟨x46, hx46, hj⟩ := bnd hj
              refine RunL.v (O.ixI (.imm rfl) (.lit rfl) sl27 hx46) rfl rfl (.yb rfl rfl hb45) <| RunL.v (O.ldI (x := I64 x46) (.iptr rfl) ct3 rfl) rfl rfl (.yb rfl rfl hb45) ?_
              obtain ⟨x47, hx47, hj⟩ := bnd hj
              obtain rfl := sm hj
              exact RunL.v (O.rem (.lit rfl) (.k rfl) hx47) rfl rfl (.yb rfl rfl hb45) <| RunL.v (O.neq (.lit rfl) (.k rfl)) rfl rfl (.yb rfl rfl hb45) <| RunL.v (O.pkT (.lit rfl) hb45 (.lit rfl)) rfl rfl .none <| RunL.fin (.n rfl (.n rfl (.n rfl (.n rfl (.n rfl (.n rfl (.n rfl (.n rfl (.n rfl (.n rfl .nil))))))))))
            · obtain rfl := sm hj
              exact RunL.ps rfl rfl hb45 rfl rfl <| RunL.ps rfl rfl hb45 rfl rfl <| RunL.ps rfl rfl hb45 rfl rfl <| RunL.ps rfl rfl hb45 rfl rfl <| RunL.ps rfl rfl hb45 rfl rfl <| RunL.ps rfl rfl hb45 rfl rfl <| RunL.ps rfl rfl hb45 rfl rfl <| RunL.v (O.pkF (.lit rfl) hb45 (.k rfl)) rfl rfl .none <| RunL.fin (.n rfl (.n rfl (.n rfl (.n rfl (.n rfl (.n rfl (.n rfl (.n rfl (.n rfl (.n rfl .nil))))))))))
          refine Px.sq ?_
          obtain ⟨j49, hj, h⟩ := bnd h
          refine W.jn [(1, .obj [I64 a0.Nons, iR (eM eI) a0.Rules, iR eI a0.Levels, iR eI a0.Inner, BB a0.Bare]), (2, .obj [SS ({ data := #[] }), .nils, .nils, SS ({ data := #[] })]), (3, I64 (w64 (1 + x1))), (4, .obj [SS ({ data := #[] }), iR eDecl_0 x2, oR eRule_1 s10.1, SS ({ data := #[] })]), (5, oR eB s10.2.1), (7, I64 s10.2.2), (8, I64 x21), (9, .obj [oR ePart j49, SS ({ data := #[] }), BB false, I64 0, I64 0, I64 0]), (10, BB x23.2)] ?_ ?_
          · clear h; have h := hj; clear hj
            refine W.cnd rfl (fun hb50 => ?_) (fun hb50 => ?_)
            · replace h := cndT hb50 h
              obtain ⟨x51, hx51, h⟩ := bnd h
              refine W.rx [(1, _), (2, _), (3, _), (4, _), (5, _), (7, _), (8, _), (9, _), (10, _)] (RunL.v (O.fO rfl (.obj rfl) fd98_0 rfl) rfl rfl .none <| RunL.v (O.ldO (y := .brw ePart.z ⟨9, [0]⟩ x23.1.length) rfl (.ptr rfl) ct96 rfl rfl) rfl rfl .none <| RunL.v (O.bu (cs := [SS ({ data := #[] }), BB false, I64 0, I64 0, SS ({ data := #[123, 102, 40, 36, 36, 41, 125] }), I64 0]) sc100 ze100 rfl rfl rfl) rfl rfl .none <| RunL.vi (x := iR ePart [(⟨(⟨{ data := #[] }, false, 0, 0⟩ : Sym), { data := #[123, 102, 40, 36, 36, 41, 125] }, 0⟩ : Part)]) (O.bs (ys := [.agg [SS ({ data := #[] }), BB false, I64 0, I64 0, SS ({ data := #[123, 102, 40, 36, 36, 41, 125] }), I64 0]]) ePart [(⟨(⟨{ data := #[] }, false, 0, 0⟩ : Sym), { data := #[123, 102, 40, 36, 36, 41, 125] }, 0⟩ : Part)] sl96 rfl rfl rfl rfl rfl rfl zt100 rfl rfl) rfl rfl .none <| RunL.v (O.ap (en := ePart) (r := x51) (.brw rfl) rfl (.imm rfl) .i ap96 rfl hx51) rfl rfl .none <| RunL.v (O.fO rfl (.obj rfl) fd98_0 rfl) rfl rfl .none <| RunL.ef (G2 := [(1, .obj [I64 a0.Nons, iR (eM eI) a0.Rules, iR eI a0.Levels, iR eI a0.Inner, BB a0.Bare]), (2, .obj [SS ({ data := #[] }), .nils, .nils, SS ({ data := #[] })]), (3, I64 (w64 (1 + x1))), (4, .obj [SS ({ data := #[] }), iR eDecl_0 x2, oR eRule_1 s10.1, SS ({ data := #[] })]), (5, oR eB s10.2.1), (7, I64 s10.2.2), (8, I64 x21), (9, .obj [oR ePart (x23.1 ++ [(⟨(⟨{ data := #[] }, false, 0, 0⟩ : Sym), { data := #[123, 102, 40, 36, 36, 41, 125] }, 0⟩ : Part)]), SS ({ data := #[] }), BB false, I64 0, I64 0, I64 0]), (10, BB x23.2)]) rfl (EO.stP (g1 := _) (en := ePart) (M := [(⟨(⟨{ data := #[] }, false, 0, 0⟩ : Sym), { data := #[123, 102, 40, 36, 36, 41, 125] }, 0⟩ : Part)]) (cs2 := [oR ePart (x23.1 ++ [(⟨(⟨{ data := #[] }, false, 0, 0⟩ : Sym), { data := #[123, 102, 40, 36, 36, 41, 125] }, 0⟩ : Part)]), SS ({ data := #[] }), BB false, I64 0, I64 0, I64 0]) rfl rfl (.ptr rfl) (.pend rfl) rfl rfl rfl .ns .rf rfl rfl sz96 rfl rfl rfl rfl (.n rfl rfl (.n rfl rfl (.n rfl rfl (.n rfl rfl (.n rfl rfl (.n rfl rfl (.n rfl rfl (.b rfl (.n rfl rfl .nil)))))))))) <| RunL.fin (.n rfl (.n rfl (.n rfl (.n rfl (.n rfl (.n rfl (.n rfl (.n rfl (.n rfl .nil)))))))))) ?_
              obtain rfl := sm h
              exact Px.jn (.n rfl (.n rfl (.n rfl (.n rfl (.n rfl (.n rfl (.n rfl (.n rfl (.n rfl .nil)))))))))
            · replace h := cndF hb50 h
              refine W.sk ?_
              obtain rfl := sm h
              exact Px.jn (.n rfl (.n rfl (.n rfl (.n rfl (.n rfl (.n rfl (.n rfl (.n rfl (.n rfl .nil)))))))))
          refine Px.sq ?_
          refine W.sq' ?_
          obtain ⟨c54, hj, h⟩ := bnd h
          refine W.rx [(1, .obj [I64 a0.Nons, iR (eM eI) a0.Rules, iR eI a0.Levels, iR eI a0.Inner, BB a0.Bare]), (2, .obj [SS ({ data := #[] }), .nils, .nils, SS ({ data := #[] })]), (3, I64 (w64 (1 + x1))), (4, .obj [SS ({ data := #[] }), iR eDecl_0 x2, oR eRule_1 s10.1, SS ({ data := #[] })]), (5, oR eB c54), (7, I64 s10.2.2), (8, I64 x21), (9, .obj [oR ePart j49, SS ({ data := #[] }), BB false, I64 0, I64 0, I64 0])] ?_ ?_
          · refine RunL.v (O.mv (.own rfl)) rfl rfl .none <| RunL.v (O.mv (.lit rfl)) rfl rfl .none <| RunL.v (O.mv (.own rfl)) rfl rfl .none <| RunL.v (O.mv (.lit rfl)) rfl rfl .none ?_
            obtain ⟨x52, hx52, hj⟩ := bnd hj
            refine RunL.v (O.ixO (en := eB) rfl (.brw rfl) (.lit rfl) sl102 hx52 rfl) rfl rfl .none <| RunL.v (O.ldE (en := eB) (x' := BB x52) rfl (.ptr rfl) ct4 hx52 rfl rfl) rfl rfl .none <| RunL.v (O.mv (.lit rfl)) rfl rfl .none ?_
            rcases cnd hj with ⟨hb53, hj⟩ | ⟨hb53, hj⟩
            · obtain rfl := sm hj
              exact RunL.ps rfl rfl hb53 rfl rfl <| RunL.v (O.pkT (.lit rfl) hb53 (.k rfl)) rfl rfl .none <| RunL.v (O.ixO (en := eB) rfl (.brw rfl) (.lit rfl) sl102 hx52 rfl) rfl rfl .none <| RunL.ef (G2 := [(1, .obj [I64 a0.Nons, iR (eM eI) a0.Rules, iR eI a0.Levels, iR eI a0.Inner, BB a0.Bare]), (2, .obj [SS ({ data := #[] }), .nils, .nils, SS ({ data := #[] })]), (3, I64 (w64 (1 + x1))), (4, .obj [SS ({ data := #[] }), iR eDecl_0 x2, oR eRule_1 s10.1, SS ({ data := #[] })]), (5, oR eB (s10.2.1.set x21.toNat true)), (7, I64 s10.2.2), (8, I64 x21), (9, .obj [oR ePart j49, SS ({ data := #[] }), BB false, I64 0, I64 0, I64 0])]) rfl (EO.stE (en := eB) (y2 := true) (cs' := [BB true]) (x2 := oR eB (s10.2.1.set x21.toNat true)) rfl rfl (.ptr rfl) (.lit rfl) rfl hx52 sz4 rfl rfl rfl rfl rfl rfl rfl (.n rfl rfl (.n rfl rfl (.n rfl rfl (.n rfl rfl (.b rfl (.n rfl rfl (.n rfl rfl (.n rfl rfl .nil))))))))) <| RunL.fin (.n rfl (.n rfl (.n rfl (.n rfl (.n rfl (.n rfl (.n rfl (.n rfl .nil))))))))
            · obtain rfl := sm hj
              exact RunL.v (O.mv (.lit rfl)) rfl rfl (.yb rfl rfl hb53) <| RunL.v (O.pkF (.lit rfl) hb53 (.lit rfl)) rfl rfl .none <| RunL.v (O.ixO (en := eB) rfl (.brw rfl) (.lit rfl) sl102 hx52 rfl) rfl rfl .none <| RunL.ef (G2 := [(1, .obj [I64 a0.Nons, iR (eM eI) a0.Rules, iR eI a0.Levels, iR eI a0.Inner, BB a0.Bare]), (2, .obj [SS ({ data := #[] }), .nils, .nils, SS ({ data := #[] })]), (3, I64 (w64 (1 + x1))), (4, .obj [SS ({ data := #[] }), iR eDecl_0 x2, oR eRule_1 s10.1, SS ({ data := #[] })]), (5, oR eB (s10.2.1.set x21.toNat x23.2)), (7, I64 s10.2.2), (8, I64 x21), (9, .obj [oR ePart j49, SS ({ data := #[] }), BB false, I64 0, I64 0, I64 0])]) rfl (EO.stE (en := eB) (y2 := x23.2) (cs' := [BB x23.2]) (x2 := oR eB (s10.2.1.set x21.toNat x23.2)) rfl rfl (.ptr rfl) (.lit rfl) rfl hx52 sz4 rfl rfl rfl rfl rfl rfl rfl (.n rfl rfl (.n rfl rfl (.n rfl rfl (.n rfl rfl (.b rfl (.n rfl rfl (.n rfl rfl (.n rfl rfl .nil))))))))) <| RunL.fin (.n rfl (.n rfl (.n rfl (.n rfl (.n rfl (.n rfl (.n rfl (.n rfl .nil))))))))
          refine Px.sq ?_
          refine W.fz (G1 := [(1, .obj [I64 a0.Nons, iR (eM eI) a0.Rules, iR eI a0.Levels, iR eI a0.Inner, BB a0.Bare]), (2, .obj [SS ({ data := #[] }), .nils, .nils, SS ({ data := #[] })]), (3, I64 (w64 (1 + x1))), (4, .obj [SS ({ data := #[] }), iR eDecl_0 x2, oR eRule_1 s10.1, SS ({ data := #[] })]), (5, oR eB c54), (7, I64 s10.2.2), (8, I64 x21), (9, .obj [iR ePart j49, SS ({ data := #[] }), BB false, I64 0, I64 0, I64 0])]) [9] (.n rfl rfl (.n rfl rfl (.n rfl rfl (.n rfl rfl (.n rfl rfl (.n rfl rfl (.n rfl rfl (.z rfl rfl (FzL.obj (.z (.f (.f (.f (.f (.f .nil))))))) .nil)))))))) ?_
          obtain ⟨x55, hx55, h⟩ := bnd h
          obtain ⟨x56, hx56, h⟩ := bnd h
          refine W.rd [[], [0], [], [], [3], [], [3, 4, 5], [3, 4, 5, 6], [3, 4, 5, 6, 7], [], [9], [3, 4, 5, 6, 7, 8, 9, 10], [0, 1, 2, 3, 4, 5, 6, 7, 8, 9, 10, 11], [0, 1, 2, 3, 4, 5, 6, 7, 8, 9, 10, 11, 12], [0, 1, 2, 3, 4, 5, 6, 7, 8, 9, 10, 11, 12, 13]] [(1, _), (2, _), (3, _), (4, _), (5, _), (7, _)] mixo (by kernel_rfl) (DL.v 0 (O.fO rfl (.obj rfl) fd25_2 rfl) rfl rfl rfl rfl .none <| DL.v 1 (O.ldO (y := .brw eRule_1.z ⟨4, [2]⟩ s10.1.length) rfl (.ptr rfl) ct23 rfl rfl) rfl rfl rfl rfl .none <| DL.v 2 (O.mv (.lit rfl)) rfl rfl rfl rfl .none <| DL.v 3 (O.fO rfl (.obj rfl) fd25_2 rfl) rfl rfl rfl rfl .none <| DL.v 4 (O.ldO (y := .brw eRule_1.z ⟨4, [2]⟩ s10.1.length) rfl (.ptr rfl) ct23 rfl rfl) rfl rfl rfl rfl .none <| DL.v 5 (O.mv (.lit rfl)) rfl rfl rfl rfl .none <| DL.v 6 (O.ixO (en := eRule_1) rfl (.brw rfl) (.lit rfl) sl23 hx55 rfl) rfl rfl rfl rfl .none <| DL.v 7 (O.fE (en := eRule_1) rfl (.ptr rfl) fd95_1 hx55 rfl rfl) rfl rfl rfl rfl .none <| DL.v 8 (O.ldE (en := eRule_1) (x' := .brw eAlt_0.z ⟨4, [2, x21.toNat * eRule_1.z + 1]⟩ x55.Alts.length) rfl (.ptr rfl) ct93 hx55 rfl rfl) rfl rfl rfl rfl .none <| DL.v 9 (O.ldON (cs' := [iR ePart j49, SS ({ data := #[] }), BB false, I64 0, I64 0, I64 0]) rfl (.obj rfl) at98 rfl rfl) rfl rfl rfl rfl .none <| DL.vi 10 (x := iR eAlt_0 [(⟨j49, (⟨{ data := #[] }, false, 0, 0⟩ : Sym), 0⟩ : Alt)]) (O.bs (ys := [.agg [iR ePart j49, SS ({ data := #[] }), BB false, I64 0, I64 0, I64 0]]) eAlt_0 [(⟨j49, (⟨{ data := #[] }, false, 0, 0⟩ : Sym), 0⟩ : Alt)] sl93 rfl rfl rfl rfl rfl rfl zt98 rfl rfl) rfl rfl rfl rfl .none <| DL.v 11 (O.ap (en := eAlt_0) (r := x56) (.brw rfl) (atP_el (r := 4) (path := [2]) (o := 1) (en := eRule_1) rfl hx55 rfl) (.imm rfl) .i ap93 rfl hx56) rfl rfl rfl rfl .none <| DL.v 12 (O.ixO (en := eRule_1) rfl (.brw rfl) (.lit rfl) sl23 hx55 rfl) rfl rfl rfl rfl .none <| DL.v 13 (O.fE (en := eRule_1) rfl (.ptr rfl) fd95_1 hx55 rfl rfl) rfl rfl rfl rfl .none <| DL.bp 14 (G2 := [(1, .obj [I64 a0.Nons, iR (eM eI) a0.Rules, iR eI a0.Levels, iR eI a0.Inner, BB a0.Bare]), (2, .obj [SS ({ data := #[] }), .nils, .nils, SS ({ data := #[] })]), (3, I64 (w64 (1 + x1))), (4, .obj [SS ({ data := #[] }), iR eDecl_0 x2, oR eRule_1 (s10.1.set x21.toNat (⟨x55.Left, x55.Alts ++ [(⟨j49, (⟨{ data := #[] }, false, 0, 0⟩ : Sym), 0⟩ : Alt)], x55.At⟩ : Rule)), SS ({ data := #[] })]), (5, oR eB c54), (7, I64 s10.2.2)]) (EO.stEP (en := eRule_1) (en2 := eAlt_0) (M := [(⟨j49, (⟨{ data := #[] }, false, 0, 0⟩ : Sym), 0⟩ : Alt)]) (y2 := (⟨x55.Left, x55.Alts ++ [(⟨j49, (⟨{ data := #[] }, false, 0, 0⟩ : Sym), 0⟩ : Alt)], x55.At⟩ : Rule)) (x2 := .obj [SS ({ data := #[] }), iR eDecl_0 x2, oR eRule_1 (s10.1.set x21.toNat (⟨x55.Left, x55.Alts ++ [(⟨j49, (⟨{ data := #[] }, false, 0, 0⟩ : Sym), 0⟩ : Alt)], x55.At⟩ : Rule)), SS ({ data := #[] })]) (y0 := .obj [SS ({ data := #[] }), iR eDecl_0 x2, .own eRule_1.z s10.1.length ((rowc eRule_1 s10.1).set (x21.toNat * eRule_1.z + 1) .dead), SS ({ data := #[] })]) rfl rfl (.ptr rfl) (.pend rfl) rfl rfl hx55 rfl rfl .ns .rf rfl rfl sz93 rfl rfl rfl rfl rfl rfl (.n rfl rfl (.n rfl rfl (.n rfl rfl (.b rfl (.n rfl rfl (.n rfl rfl .nil))))))) rfl rfl rfl rfl (by kernel_rfl) (by kernel_rfl) <| DL.fin rfl rfl rfl (.n rfl (.n rfl (.n rfl (.n rfl (.n rfl (.n rfl .nil))))))) ?_
          refine Px.bk ?_
          obtain rfl := sm h
          exact Px.jn (.n rfl (.n rfl (.n rfl (.n rfl (.n rfl (.n rfl .nil))))))
      refine Px.sq ?_
      refine W.rx [(1, _), (2, _), (3, _), (4, _), (5, _), (7, _)] (RunL.v (O.mv (.lit rfl)) rfl rfl .none <| RunL.v (O.add (.lit rfl) (.k rfl)) rfl rfl .none <| RunL.re (G1 := [(1, .obj [I64 a0.Nons, iR (eM eI) a0.Rules, iR eI a0.Levels, iR eI a0.Inner, BB a0.Bare]), (2, .obj [SS ({ data := #[] }), .nils, .nils, SS ({ data := #[] })]), (3, I64 (w64 (1 + x1))), (4, .obj [SS ({ data := #[] }), iR eDecl_0 x2, oR eRule_1 j16.1, SS ({ data := #[] })]), (5, oR eB j16.2), (47, I64 (w64 (s10.2.2 + 1)))]) (.n rfl (.n rfl (.n rfl (.n rfl (.n rfl (.n rfl .nil)))))) <| RunL.v (O.as (.lit rfl)) rfl rfl .none <| RunL.fin (.n rfl (.n rfl (.n rfl (.n rfl (.n rfl (.n rfl .nil))))))) ?_
      obtain rfl := sm h
      exact Px.go (.n rfl (.n rfl (.n rfl (.n rfl (.n rfl (.n rfl .nil))))))
    · replace h := cndF hb15 h
      refine W.xi ?_
      refine Px.sqE ?_
      obtain rfl := sm h
      exact Px.x1 (.n rfl (.n rfl (.n rfl (.n rfl (.n rfl .nil)))))
  refine Px.bkH ?_
  refine Px.sq ?_
  refine W.sq' ?_
  refine W.sq' ?_
  refine W.rx [(1, _), (2, _), (3, _), (4, _), (5, _), (13, _)] (RunL.v (O.as (.k rfl)) rfl rfl .none <| RunL.fin (.n rfl (.n rfl (.n rfl (.n rfl (.n rfl (.n rfl .nil))))))) ?_
  refine Px.sq ?_
  refine W.bk ?_
  obtain ⟨x58, hl, h⟩ := bnd h
  refine W.tr (G1 := [(1, .obj [I64 a0.Nons, iR (eM eI) a0.Rules, iR eI a0.Levels, iR eI a0.Inner, BB a0.Bare]), (2, .obj [SS ({ data := #[] }), .nils, .nils, SS ({ data := #[] })]), (3, I64 (w64 (1 + x1))), (4, .obj [SS ({ data := #[] }), iR eDecl_0 x2, oR eRule_1 x11.1, SS ({ data := #[] })]), (5, oR eB x11.2), (13, I64 0)]) (.n rfl (.n rfl (.n rfl (.n rfl (.n rfl (.n rfl .nil)))))) ?_
  refine W.lp1 (s := (x11.1, 0)) (fun (s57 : List Rule × Int) => [(1, .obj [I64 a0.Nons, iR (eM eI) a0.Rules, iR eI a0.Levels, iR eI a0.Inner, BB a0.Bare]), (2, .obj [SS ({ data := #[] }), .nils, .nils, SS ({ data := #[] })]), (3, I64 (w64 (1 + x1))), (4, .obj [SS ({ data := #[] }), iR eDecl_0 x2, oR eRule_1 s57.1, SS ({ data := #[] })]), (5, oR eB x11.2), (13, I64 s57.2)]) 6 (fun (x58 : List Rule) => [(2, .obj [SS ({ data := #[] }), .nils, .nils, SS ({ data := #[] })]), (4, .obj [SS ({ data := #[] }), iR eDecl_0 x2, oR eRule_1 x58, SS ({ data := #[] })])]) hl (fun s57 o h => ?_) ?_
  · clear hl
    refine W.sq' ?_
    refine W.sq' ?_
    refine W.rx [(1, _), (2, _), (3, _), (4, _), (5, _), (13, _), (175, _)] (RunL.v (O.mv (.lit rfl)) rfl rfl .none <| RunL.v (O.mv (.lit rfl)) rfl rfl .none <| RunL.v (O.lss (.lit rfl) (.lit rfl)) rfl rfl .none <| RunL.fin (.n rfl (.n rfl (.n rfl (.n rfl (.n rfl (.n rfl (.n rfl .nil)))))))) ?_
    refine Px.sq ?_
    refine W.cnd rfl (fun hb60 => ?_) (fun hb60 => ?_)
    · replace h := cndT hb60 h
      refine W.sk ?_
      refine Px.sq ?_
      refine W.sq' ?_
      obtain ⟨j61, hj, h⟩ := bnd h
      refine W.jn [(1, .obj [I64 a0.Nons, iR (eM eI) a0.Rules, iR eI a0.Levels, iR eI a0.Inner, BB a0.Bare]), (2, .obj [SS ({ data := #[] }), .nils, .nils, SS ({ data := #[] })]), (3, I64 (w64 (1 + x1))), (4, .obj [SS ({ data := #[] }), iR eDecl_0 x2, oR eRule_1 j61, SS ({ data := #[] })]), (5, oR eB x11.2), (13, I64 s57.2)] ?_ ?_
      · clear h; have h := hj; clear hj
        refine W.bk ?_
        refine W.sq' ?_
        obtain ⟨c66, hj, h⟩ := bnd h
        refine W.rx [(1, .obj [I64 a0.Nons, iR (eM eI) a0.Rules, iR eI a0.Levels, iR eI a0.Inner, BB a0.Bare]), (2, .obj [SS ({ data := #[] }), .nils, .nils, SS ({ data := #[] })]), (3, I64 (w64 (1 + x1))), (4, .obj [SS ({ data := #[] }), iR eDecl_0 x2, oR eRule_1 s57.1, SS ({ data := #[] })]), (5, oR eB x11.2), (13, I64 s57.2), (197, BB c66)] ?_ ?_
        · refine RunL.v (O.fO rfl (.obj rfl) fd25_2 rfl) rfl rfl .none <| RunL.v (O.ldO (y := .brw eRule_1.z ⟨4, [2]⟩ s57.1.length) rfl (.ptr rfl) ct23 rfl rfl) rfl rfl .none <| RunL.v (O.mv (.lit rfl)) rfl rfl .none ?_
          obtain ⟨x62, hx62, hj⟩ := bnd hj
          refine RunL.v (O.ixO (en := eRule_1) rfl (.brw rfl) (.lit rfl) sl23 hx62 rfl) rfl rfl .none <| RunL.v (O.fE (en := eRule_1) rfl (.ptr rfl) fd95_1 hx62 rfl rfl) rfl rfl .none <| RunL.v (O.ldE (en := eRule_1) (x' := .brw eAlt_0.z ⟨4, [2, s57.2.toNat * eRule_1.z + 1]⟩ x62.Alts.length) rfl (.ptr rfl) ct93 hx62 rfl rfl) rfl rfl .none <| RunL.v (O.lenO (.brw rfl) sl93) rfl rfl .none <| RunL.v (O.eql (.lit rfl) (.k rfl)) rfl rfl .none <| RunL.v (O.mv (.lit rfl)) rfl rfl .none ?_
          rcases cnd hj with ⟨hb63, hj⟩ | ⟨hb63, hj⟩
          · obtain rfl := sm hj
            exact RunL.ps rfl rfl hb63 rfl rfl <| RunL.ps rfl rfl hb63 rfl rfl <| RunL.ps rfl rfl hb63 rfl rfl <| RunL.ps rfl rfl hb63 rfl rfl <| RunL.ps rfl rfl hb63 rfl rfl <| RunL.ps rfl rfl hb63 rfl rfl <| RunL.pu rfl rfl rfl rfl <| RunL.pu rfl rfl rfl rfl <| RunL.pu rfl rfl rfl rfl <| RunL.ps rfl rfl hb63 rfl rfl <| RunL.v (O.pkT (.lit rfl) hb63 (.k rfl)) rfl rfl .none <| RunL.fin (.n rfl (.n rfl (.n rfl (.n rfl (.n rfl (.n rfl (.n rfl .nil)))))))
          · refine RunL.v (O.mv (.own rfl)) rfl rfl (.yb rfl rfl hb63) <| RunL.v (O.mv (.lit rfl)) rfl rfl (.yb rfl rfl hb63) ?_
            obtain ⟨x64, hx64, hj⟩ := bnd hj
            refine RunL.v (O.ixO (en := eB) rfl (.brw rfl) (.lit rfl) sl102 hx64 rfl) rfl rfl (.yb rfl rfl hb63) <| RunL.v (O.ldE (en := eB) (x' := BB x64) rfl (.ptr rfl) ct4 hx64 rfl rfl) rfl rfl (.yb rfl rfl hb63) <| RunL.v (O.not (.lit rfl)) rfl rfl (.yb rfl rfl hb63) <| RunL.v (O.mv (.lit rfl)) rfl rfl (.yb rfl rfl hb63) ?_
            rcases cnd hj with ⟨hb65, hj⟩ | ⟨hb65, hj⟩
            · obtain rfl := sm hj
              exact RunL.v (O.fO rfl (.obj rfl) fd29_4 rfl) rfl rfl (.yb rfl rfl hb65) <| RunL.v (O.ldO (y := BB a0.Bare) rfl (.ptr rfl) ct4 rfl rfl) rfl rfl (.yb rfl rfl hb65) <| RunL.v (O.not (.lit rfl)) rfl rfl (.yb rfl rfl hb65) <| RunL.v (O.pkT (.lit rfl) hb65 (.lit rfl)) rfl rfl (.yb rfl rfl hb63) <| RunL.v (O.pkF (.lit rfl) hb63 (.lit rfl)) rfl rfl .none <| RunL.fin (.n rfl (.n rfl (.n rfl (.n rfl (.n rfl (.n rfl (.n rfl .nil)))))))
            · obtain rfl := sm hj
              exact RunL.ps rfl rfl hb65 rfl rfl <| RunL.ps rfl rfl hb65 rfl rfl <| RunL.ps rfl rfl hb65 rfl rfl <| RunL.v (O.pkF (.lit rfl) hb65 (.k rfl)) rfl rfl (.yb rfl rfl hb63) <| RunL.v (O.pkF (.lit rfl) hb63 (.lit rfl)) rfl rfl .none <| RunL.fin (.n rfl (.n rfl (.n rfl (.n rfl (.n rfl (.n rfl (.n rfl .nil)))))))
        refine Px.sq ?_
        obtain ⟨j67, hj, h⟩ := bnd h
        refine W.jn [(1, .obj [I64 a0.Nons, iR (eM eI) a0.Rules, iR eI a0.Levels, iR eI a0.Inner, BB a0.Bare]), (2, .obj [SS ({ data := #[] }), .nils, .nils, SS ({ data := #[] })]), (3, I64 (w64 (1 + x1))), (4, .obj [SS ({ data := #[] }), iR eDecl_0 x2, oR eRule_1 j67, SS ({ data := #[] })]), (5, oR eB x11.2), (13, I64 s57.2)] ?_ ?_
        · clear h; have h := hj; clear hj
          refine W.cnd rfl (fun hb68 => ?_) (fun hb68 => ?_)
          · replace h := cndT hb68 h
            obtain ⟨x69, hx69, h⟩ := bnd h
            obtain ⟨x70, hx70, h⟩ := bnd h
            obtain ⟨x71, hx71, h⟩ := bnd h
            refine W.rd [[], [0], [], [], [3], [], [3, 4, 5], [3, 4, 5, 6], [3, 4, 5, 6, 7], [], [9], [9, 10], [9, 10, 11], [9, 10, 11, 12], [9, 10, 11, 12, 13], [3, 4, 5, 6, 7, 8, 9, 10, 11, 12, 13, 14], [0, 1, 2, 3, 4, 5, 6, 7, 8, 9, 10, 11, 12, 13, 14, 15], [0, 1, 2, 3, 4, 5, 6, 7, 8, 9, 10, 11, 12, 13, 14, 15, 16], [0, 1, 2, 3, 4, 5, 6, 7, 8, 9, 10, 11, 12, 13, 14, 15, 16, 17]] [(1, _), (2, _), (3, _), (4, _), (5, _), (13, _)] mixo (by kernel_rfl) (DL.v 0 (O.fO rfl (.obj rfl) fd25_2 rfl) rfl rfl rfl rfl .none <| DL.v 1 (O.ldO (y := .brw eRule_1.z ⟨4, [2]⟩ s57.1.length) rfl (.ptr rfl) ct23 rfl rfl) rfl rfl rfl rfl .none <| DL.v 2 (O.mv (.lit rfl)) rfl rfl rfl rfl .none <| DL.v 3 (O.fO rfl (.obj rfl) fd25_2 rfl) rfl rfl rfl rfl .none <| DL.v 4 (O.ldO (y := .brw eRule_1.z ⟨4, [2]⟩ s57.1.length) rfl (.ptr rfl) ct23 rfl rfl) rfl rfl rfl rfl .none <| DL.v 5 (O.mv (.lit rfl)) rfl rfl rfl rfl .none <| DL.v 6 (O.ixO (en := eRule_1) rfl (.brw rfl) (.lit rfl) sl23 hx69 rfl) rfl rfl rfl rfl .none <| DL.v 7 (O.fE (en := eRule_1) rfl (.ptr rfl) fd95_1 hx69 rfl rfl) rfl rfl rfl rfl .none <| DL.v 8 (O.ldE (en := eRule_1) (x' := .brw eAlt_0.z ⟨4, [2, s57.2.toNat * eRule_1.z + 1]⟩ x69.Alts.length) rfl (.ptr rfl) ct93 hx69 rfl rfl) rfl rfl rfl rfl .none <| DL.v 9 (O.mv (.lit rfl)) rfl rfl rfl rfl .none <| DL.c 10 (PC.go (.cc (.lit rfl) .nil) (con49 s57.2 _ hx70) call49 rfl) rfl rfl rfl rfl .none <| DL.v 11 (O.bu (cs := [SS x70.Name, BB x70.Lit, I64 x70.Num, I64 x70.At, SS ({ data := #[] }), I64 0]) sc100 ze100 rfl rfl rfl) rfl rfl rfl rfl .none <| DL.vi 12 (x := iR ePart [(⟨x70, { data := #[] }, 0⟩ : Part)]) (O.bs (ys := [.agg [SS x70.Name, BB x70.Lit, I64 x70.Num, I64 x70.At, SS ({ data := #[] }), I64 0]]) ePart [(⟨x70, { data := #[] }, 0⟩ : Part)] sl96 rfl rfl rfl rfl rfl rfl zt100 rfl rfl) rfl rfl rfl rfl .none <| DL.v 13 (O.bu (cs := [iR ePart [(⟨x70, { data := #[] }, 0⟩ : Part)], SS ({ data := #[] }), BB false, I64 0, I64 0, I64 0]) sc98 ze98 rfl rfl rfl) rfl rfl rfl rfl .none <| DL.vi 14 (x := iR eAlt_0 [(⟨[(⟨x70, { data := #[] }, 0⟩ : Part)], (⟨{ data := #[] }, false, 0, 0⟩ : Sym), 0⟩ : Alt)]) (O.bs (ys := [.agg [iR ePart [(⟨x70, { data := #[] }, 0⟩ : Part)], SS ({ data := #[] }), BB false, I64 0, I64 0, I64 0]]) eAlt_0 [(⟨[(⟨x70, { data := #[] }, 0⟩ : Part)], (⟨{ data := #[] }, false, 0, 0⟩ : Sym), 0⟩ : Alt)] sl93 rfl rfl rfl rfl rfl rfl zt98 rfl rfl) rfl rfl rfl rfl .none <| DL.v 15 (O.ap (en := eAlt_0) (r := x71) (.brw rfl) (atP_el (r := 4) (path := [2]) (o := 1) (en := eRule_1) rfl hx69 rfl) (.imm rfl) .i ap93 rfl hx71) rfl rfl rfl rfl .none <| DL.v 16 (O.ixO (en := eRule_1) rfl (.brw rfl) (.lit rfl) sl23 hx69 rfl) rfl rfl rfl rfl .none <| DL.v 17 (O.fE (en := eRule_1) rfl (.ptr rfl) fd95_1 hx69 rfl rfl) rfl rfl rfl rfl .none <| DL.bp 18 (G2 := [(1, .obj [I64 a0.Nons, iR (eM eI) a0.Rules, iR eI a0.Levels, iR eI a0.Inner, BB a0.Bare]), (2, .obj [SS ({ data := #[] }), .nils, .nils, SS ({ data := #[] })]), (3, I64 (w64 (1 + x1))), (4, .obj [SS ({ data := #[] }), iR eDecl_0 x2, oR eRule_1 (s57.1.set s57.2.toNat (⟨x69.Left, x69.Alts ++ [(⟨[(⟨x70, { data := #[] }, 0⟩ : Part)], (⟨{ data := #[] }, false, 0, 0⟩ : Sym), 0⟩ : Alt)], x69.At⟩ : Rule)), SS ({ data := #[] })]), (5, oR eB x11.2), (13, I64 s57.2)]) (EO.stEP (en := eRule_1) (en2 := eAlt_0) (M := [(⟨[(⟨x70, { data := #[] }, 0⟩ : Part)], (⟨{ data := #[] }, false, 0, 0⟩ : Sym), 0⟩ : Alt)]) (y2 := (⟨x69.Left, x69.Alts ++ [(⟨[(⟨x70, { data := #[] }, 0⟩ : Part)], (⟨{ data := #[] }, false, 0, 0⟩ : Sym), 0⟩ : Alt)], x69.At⟩ : Rule)) (x2 := .obj [SS ({ data := #[] }), iR eDecl_0 x2, oR eRule_1 (s57.1.set s57.2.toNat (⟨x69.Left, x69.Alts ++ [(⟨[(⟨x70, { data := #[] }, 0⟩ : Part)], (⟨{ data := #[] }, false, 0, 0⟩ : Sym), 0⟩ : Alt)], x69.At⟩ : Rule)), SS ({ data := #[] })]) (y0 := .obj [SS ({ data := #[] }), iR eDecl_0 x2, .own eRule_1.z s57.1.length ((rowc eRule_1 s57.1).set (s57.2.toNat * eRule_1.z + 1) .dead), SS ({ data := #[] })]) rfl rfl (.ptr rfl) (.pend rfl) rfl rfl hx69 rfl rfl .ns .rf rfl rfl sz93 rfl rfl rfl rfl rfl rfl (.n rfl rfl (.n rfl rfl (.n rfl rfl (.b rfl (.n rfl rfl (.n rfl rfl .nil))))))) rfl rfl rfl rfl (by kernel_rfl) (by kernel_rfl) <| DL.fin rfl rfl rfl (.n rfl (.n rfl (.n rfl (.n rfl (.n rfl (.n rfl .nil))))))) ?_
            obtain rfl := sm h
            exact Px.jn (.n rfl (.n rfl (.n rfl (.n rfl (.n rfl (.n rfl .nil))))))
          · replace h := cndF hb68 h
            refine W.sk ?_
            obtain rfl := sm h
            exact Px.jn (.n rfl (.n rfl (.n rfl (.n rfl (.n rfl (.n rfl .nil))))))
        refine Px.bk ?_
        obtain rfl := sm h
        exact Px.jn (.n rfl (.n rfl (.n rfl (.n rfl (.n rfl (.n rfl .nil))))))
      refine Px.sq ?_
      refine W.rx [(1, _), (2, _), (3, _), (4, _), (5, _), (13, _)] (RunL.v (O.mv (.lit rfl)) rfl rfl .none <| RunL.v (O.add (.lit rfl) (.k rfl)) rfl rfl .none <| RunL.re (G1 := [(1, .obj [I64 a0.Nons, iR (eM eI) a0.Rules, iR eI a0.Levels, iR eI a0.Inner, BB a0.Bare]), (2, .obj [SS ({ data := #[] }), .nils, .nils, SS ({ data := #[] })]), (3, I64 (w64 (1 + x1))), (4, .obj [SS ({ data := #[] }), iR eDecl_0 x2, oR eRule_1 j61, SS ({ data := #[] })]), (5, oR eB x11.2), (177, I64 (w64 (s57.2 + 1)))]) (.n rfl (.n rfl (.n rfl (.n rfl (.n rfl (.n rfl .nil)))))) <| RunL.v (O.as (.lit rfl)) rfl rfl .none <| RunL.fin (.n rfl (.n rfl (.n rfl (.n rfl (.n rfl (.n rfl .nil))))))) ?_
      obtain rfl := sm h
      exact Px.go (.n rfl (.n rfl (.n rfl (.n rfl (.n rfl (.n rfl .nil))))))
    · replace h := cndF hb60 h
      refine W.xi ?_
      refine Px.sqE ?_
      obtain rfl := sm h
      exact Px.x1 (.n rfl (.n rfl .nil))
  refine Px.bkH ?_
  refine Px.sq ?_
  refine W.sq' ?_
  refine W.fz (G1 := [(2, .obj [SS ({ data := #[] }), .nils, .nils, SS ({ data := #[] })]), (4, .obj [SS ({ data := #[] }), iR eDecl_0 x2, iR eRule_0 x58, SS ({ data := #[] })])]) [4] (.n rfl rfl (.z rfl rfl (FzL.obj (.f (.f (.z (.f .nil))))) .nil)) ?_
  refine W.rx [(2, _)] (RunL.v (O.ldON (cs' := [SS ({ data := #[] }), iR eDecl_0 x2, iR eRule_0 x58, SS ({ data := #[] })]) rfl (.obj rfl) at25 rfl rfl) rfl rfl .none <| RunL.sO (G2 := [(2, .obj [SS ({ data := #[] }), iR eDecl_0 x2, iR eRule_0 x58, SS ({ data := #[] })])]) (cs2 := [SS ({ data := #[] }), iR eDecl_0 x2, iR eRule_0 x58, SS ({ data := #[] })]) rfl (.obj rfl) (.aggF rfl rfl) rfl sz25 rfl rfl rfl rfl (.b rfl .nil) <| RunL.fin (.n rfl .nil)) ?_
  refine Px.sq ?_
  refine W.rt ?_
  obtain rfl := sm h
  exact Px.fin (Fin.ro (.c (ys0 := [SS ({ data := #[] }), iR eDecl_0 x2, iR eRule_0 x58, SS ({ data := #[] })]) rfl at25 rfl rfl rfl (.f rfl (.f rfl (.f rfl (.f rfl .nil)))) .nil) rfl (of_decide_eq_true (by kernel_rfl)) (.no .nil) rfl (.inr rfl))
def eSource_0 : En Source := ⟨4, fun x => [SS x.Pro, iR eDecl_0 x.Decls, iR eRule_0 x.Rules, SS x.Tail], fun _ => rfl, fun _ => NRl.nr⟩
instance : Flat eSource_0 := ⟨fun _ => rfl⟩
instance : Tw eSource_0 eSource_0 := ⟨rfl, fun x => (inferInstance : Vws [SS x.Pro, iR eDecl_0 x.Decls, iR eRule_0 x.Rules, SS x.Tail] [SS x.Pro, iR eDecl_0 x.Decls, iR eRule_0 x.Rules, SS x.Tail])⟩
def pf3 (a0 : Source) (a1 : yuccalaw0_Gr) (a2 : Int) (a3 : Int) : Option (Bool) :=
 (pf15 ).bind fun x1 =>
 (bif !x1 then
 some false
 else
 (pf16 a0).bind fun x3 =>
 (pf17 a1).bind fun x4 =>
 (loopM (R := (Unit) ⊕ (Bool)) (fun (s5 : Int) =>
 (bif decide (s5 < ([x3, x4].length : Int)) then
 (idx [x3, x4] s5).bind fun x10 =>
 (pf18 x10).bind fun x11 =>
 (bif !x11.2 then
 some (.inl (w64 (s5 + 1)))
 else
 (loopM (R := (Unit) ⊕ (Bool)) (fun (s13 : Int) =>
 (bif decide (s13 ≤ (x11.1.Prods.length : Int)) then
 (pf19 x11.1 s13).bind fun x18 =>
 (pf20 x11.1 s13).bind fun x19 =>
 ((bif !decide (x18.1 = x19.1) then some true else (bif !decide (x18.2 = x19.2) then some true else ((pf21 x11.1 s13 a3).bind fun x22 => ((pf22 x11.1 s13 a3).bind fun x23 => some (!decide (x22 = x23))))))).bind fun c24 =>
 (bif c24 then
 some (.inr (.inr false))
 else
 (loopM (R := (Unit) ⊕ (Bool)) (fun (s26 : Int) =>
 (bif decide (s26 ≤ (x11.1.Toks.length : Int)) then
 (pf21 x11.1 s13 s26).bind fun x31 =>
 (pf22 x11.1 s13 s26).bind fun x32 =>
 (bif !decide (x31 = x32) then
 some (.inr (.inr false))
 else
 some (.inl (w64 (s26 + 1))))
 else
 some (.inr (.inl ())))) (-1)).bind fun x27 =>
 (match x27 with
 | .inl x28 =>
 some (.inl (w64 (s13 + 1)))
 | .inr x29 =>
 some (.inr (.inr x29))))
 else
 some (.inr (.inl ())))) (-1)).bind fun x14 =>
 (match x14 with
 | .inl x15 =>
 (pf19 x11.1 a2).bind fun x34 =>
 (pf20 x11.1 a2).bind fun x35 =>
 ((bif !decide (x34.1 = x35.1) then some true else (bif !decide (x34.2 = x35.2) then some true else ((pf21 x11.1 a2 a3).bind fun x38 => ((pf22 x11.1 a2 a3).bind fun x39 => some (!decide (x38 = x39))))))).bind fun c40 =>
 (bif c40 then
 some (.inr (.inr false))
 else
 some (.inl (w64 (s5 + 1))))
 | .inr x16 =>
 some (.inr (.inr x16))))
 else
 some (.inr (.inl ())))) 0).bind fun x6 =>
 (match x6 with
 | .inl x7 =>
 some true
 | .inr x8 =>
 some x8))
theorem con3 (a0 : Source) (a1 : yuccalaw0_Gr) (a2 : Int) (a3 : Int) (r : Bool) (h : pf3 a0 a1 a2 a3 = some r) : Con Try.prog 3 [.agg [SS a0.Pro, iR eDecl_0 a0.Decls, iR eRule_0 a0.Rules, SS a0.Tail], .agg [I64 a1.Nons, iR (eM eI) a1.Rules, iR eI a1.Levels, iR eI a1.Inner, BB a1.Bare], I64 a2, I64 a3] [none, none, none, none] (BB r) := by
  unfold pf3 at h
  refine Con.go (N := ⟨131, []⟩) Try.func3 rfl rfl rfl rfl (W.fin ?_)
  refine W.st [(0, .agg [SS a0.Pro, iR eDecl_0 a0.Decls, iR eRule_0 a0.Rules, SS a0.Tail]), (1, .agg [I64 a1.Nons, iR (eM eI) a1.Rules, iR eI a1.Levels, iR eI a1.Inner, BB a1.Bare]), (2, I64 a2), (3, I64 a3)] ?_
  refine W.sq' ?_
  refine W.rx [(2, _), (3, _), (4, _), (5, _)] (RunL.v (O.box (.aggF rfl rfl) rfl) rfl rfl .none <| RunL.v (O.box (.aggF rfl rfl) rfl) rfl rfl .none <| RunL.v (O.as (.k rfl)) rfl rfl .none <| RunL.fin (.n rfl (.n rfl (.n rfl (.n rfl .nil))))) ?_
  refine Px.sq ?_
  refine W.sq' ?_
  refine W.sq' ?_
  obtain ⟨x1, hx1, h⟩ := bnd h
  refine W.rx [(2, _), (3, _), (4, _), (5, _), (24, _)] (RunL.c (PC.go .nil (con15  _ hx1) call15 rfl) rfl rfl .none <| RunL.v (O.not (.lit rfl)) rfl rfl .none <| RunL.fin (.n rfl (.n rfl (.n rfl (.n rfl (.n rfl .nil)))))) ?_
  refine Px.sq ?_
  refine W.cnd rfl (fun hb2 => ?_) (fun hb2 => ?_)
  · replace h := cndT hb2 h
    refine W.sq' ?_
    refine W.rx [(8, _)] (RunL.v (O.as (.k rfl)) rfl rfl .none <| RunL.fin (.n rfl .nil)) ?_
    refine Px.sq ?_
    refine W.rt ?_
    refine Px.sqR ?_
    obtain rfl := sm h
    exact Px.fin (Fin.ro (.f rfl rfl .nil) rfl (of_decide_eq_true (by kernel_rfl)) (.no (.no (.no (.no .nil)))) rfl (.inr rfl))
  · replace h := cndF hb2 h
    refine W.sk ?_
    refine Px.sq ?_
    refine W.sq' ?_
    obtain ⟨x3, hx3, h⟩ := bnd h
    obtain ⟨x4, hx4, h⟩ := bnd h
    refine W.rd [[], [0], [], [0, 1, 2], [0, 1, 2, 3], [0, 1, 2, 3, 4]] [(2, _), (3, _), (9, _)] mixo (by kernel_rfl) (DL.v 0 (O.ldON (cs' := [SS a0.Pro, iR eDecl_0 a0.Decls, iR eRule_0 a0.Rules, SS a0.Tail]) rfl (.obj rfl) at25 rfl rfl) rfl rfl rfl rfl .none <| DL.c 1 (PC.go (.cc (.aggF rfl rfl) .nil) (con16 a0 _ hx3) call16 rfl) rfl rfl rfl rfl .none <| DL.v 2 (O.ldON (cs' := [I64 a1.Nons, iR (eM eI) a1.Rules, iR eI a1.Levels, iR eI a1.Inner, BB a1.Bare]) rfl (.obj rfl) at29 rfl rfl) rfl rfl rfl rfl .none <| DL.c 3 (PC.go (.cc (.aggF rfl rfl) .nil) (con17 a1 _ hx4) call17 rfl) rfl rfl rfl rfl .none <| DL.v 4 (O.bs (ys := [.agg [SS x3.Pro, iR eDecl_0 x3.Decls, iR eRule_0 x3.Rules, SS x3.Tail], .agg [SS x4.Pro, iR eDecl_0 x4.Decls, iR eRule_0 x4.Rules, SS x4.Tail]]) eSource_0 [x3, x4] sl33 rfl rfl rfl rfl rfl rfl zt25 rfl rfl) rfl rfl rfl rfl .none <| DL.bv 5 (G2 := [(2, I64 a2), (3, I64 a3)]) (EO.aR rfl rfl (.own rfl) rfl (.n rfl rfl (.n rfl rfl .nil)) rfl rfl) rfl rfl rfl rfl (by kernel_rfl) (by kernel_rfl) <| DL.fin rfl rfl rfl (.n rfl (.n rfl (.n rfl .nil)))) ?_
    refine Px.sq ?_
    refine W.sq' ?_
    refine W.sq' ?_
    refine W.rx [(2, _), (3, _), (9, _), (10, _)] (RunL.v (O.as (.k rfl)) rfl rfl .none <| RunL.fin (.n rfl (.n rfl (.n rfl (.n rfl .nil))))) ?_
    refine Px.sq ?_
    refine W.bk ?_
    obtain ⟨x6, hl, h⟩ := bnd h
    refine W.tr (G1 := [(2, I64 a2), (3, I64 a3), (9, oR eSource_0 [x3, x4]), (10, I64 0)]) (.n rfl (.n rfl (.n rfl (.n rfl .nil)))) ?_
    refine W.lp2 (s := 0) (fun (s5 : Int) => [(2, I64 a2), (3, I64 a3), (9, oR eSource_0 [x3, x4]), (10, I64 s5)]) 0 (fun (x7 : Unit) => []) (fun (x8 : Bool) => [(8, BB x8)]) hl (fun s5 o h => ?_) (fun x7 hx => ?_) (fun x8 hx => ?_)
    · clear hl
      refine W.sq' ?_
      refine W.sq' ?_
      refine W.rx [(2, _), (3, _), (9, _), (10, _), (33, _)] (RunL.v (O.mv (.lit rfl)) rfl rfl .none <| RunL.v (O.mv (.own rfl)) rfl rfl .none <| RunL.v (O.lenO (.brw rfl) sl33) rfl rfl .none <| RunL.v (O.lss (.lit rfl) (.lit rfl)) rfl rfl .none <| RunL.fin (.n rfl (.n rfl (.n rfl (.n rfl (.n rfl .nil)))))) ?_
      refine Px.sq ?_
      refine W.cnd rfl (fun hb9 => ?_) (fun hb9 => ?_)
      · replace h := cndT hb9 h
        refine W.sk ?_
        refine Px.sq ?_
        refine W.sq' ?_
        refine W.bk ?_
        refine W.sq' ?_
        obtain ⟨x10, hx10, h⟩ := bnd h
        obtain ⟨x11, hx11, h⟩ := bnd h
        refine W.rx [(2, _), (3, _), (9, _), (10, _), (11, _), (12, _)] (RunL.v (O.mv (.own rfl)) rfl rfl .none <| RunL.v (O.mv (.lit rfl)) rfl rfl .none <| RunL.v (O.ixO (en := eSource_0) rfl (.brw rfl) (.lit rfl) sl33 hx10 rfl) rfl rfl .none <| RunL.v (O.ldEN (en := eSource_0) (cs' := [SS x10.Pro, iR eDecl_0 x10.Decls, iR eRule_0 x10.Rules, SS x10.Tail]) rfl (.ptr rfl) at25 hx10 rfl rfl) rfl rfl .none <| RunL.c (PC.go (.cc (.aggF rfl rfl) .nil) (con18 x10 _ hx11) call18 rfl) rfl rfl .none <| RunL.v (O.mv (.tup rfl rfl)) rfl rfl .none <| RunL.v (O.ex (y := .agg [iR eTok x11.1.Toks, iR eNon x11.1.Nons, iR eProd_0 x11.1.Prods, SS x11.1.Pro, SS x11.1.Tail]) rfl rfl rfl) rfl rfl .none <| RunL.v (O.ex (y := BB x11.2) rfl rfl rfl) rfl rfl .none <| RunL.v (O.al (cs := [.nils, .nils, .nils, SS ({ data := #[] }), SS ({ data := #[] })]) ze38 rfl rfl) rfl rfl .none <| RunL.sO (G2 := [(2, I64 a2), (3, I64 a3), (9, oR eSource_0 [x3, x4]), (10, I64 s5), (11, .obj [iR eTok x11.1.Toks, iR eNon x11.1.Nons, iR eProd_0 x11.1.Prods, SS x11.1.Pro, SS x11.1.Tail]), (43, BB x11.2)]) (cs2 := [iR eTok x11.1.Toks, iR eNon x11.1.Nons, iR eProd_0 x11.1.Prods, SS x11.1.Pro, SS x11.1.Tail]) rfl (.obj rfl) (.aggF rfl rfl) rfl sz38 rfl rfl rfl rfl (.n rfl rfl (.n rfl rfl (.n rfl rfl (.n rfl rfl (.b rfl (.n rfl rfl .nil)))))) <| RunL.v (O.as (.lit rfl)) rfl rfl .none <| RunL.fin (.n rfl (.n rfl (.n rfl (.n rfl (.n rfl (.n rfl .nil))))))) ?_
        refine Px.sq ?_
        refine W.sq' ?_
        refine W.sq' ?_
        refine W.rx [(2, _), (3, _), (9, _), (10, _), (11, _), (45, _)] (RunL.v (O.mv (.lit rfl)) rfl rfl .none <| RunL.v (O.not (.lit rfl)) rfl rfl .none <| RunL.fin (.n rfl (.n rfl (.n rfl (.n rfl (.n rfl (.n rfl .nil))))))) ?_
        refine Px.sq ?_
        refine W.cnd rfl (fun hb12 => ?_) (fun hb12 => ?_)
        · replace h := cndT hb12 h
          refine W.xi ?_
          refine Px.sqE ?_
          refine Px.bkH ?_
          refine Px.sq ?_
          refine W.rx [(2, _), (3, _), (9, _), (10, _)] (RunL.v (O.mv (.lit rfl)) rfl rfl .none <| RunL.v (O.add (.lit rfl) (.k rfl)) rfl rfl .none <| RunL.re (G1 := [(2, I64 a2), (3, I64 a3), (9, oR eSource_0 [x3, x4]), (35, I64 (w64 (s5 + 1)))]) (.n rfl (.n rfl (.n rfl (.n rfl .nil)))) <| RunL.v (O.as (.lit rfl)) rfl rfl .none <| RunL.fin (.n rfl (.n rfl (.n rfl (.n rfl .nil))))) ?_
          obtain rfl := sm h
          exact Px.go (.n rfl (.n rfl (.n rfl (.n rfl .nil))))
        · replace h := cndF hb12 h
          refine W.sk ?_
          refine Px.sq ?_
          refine W.sq' ?_
          refine W.sq' ?_
          refine W.rx [(2, _), (3, _), (9, _), (10, _), (11, _), (13, _)] (RunL.v (O.as (.k rfl)) rfl rfl .none <| RunL.fin (.n rfl (.n rfl (.n rfl (.n rfl (.n rfl (.n rfl .nil))))))) ?_
          refine Px.sq ?_
          refine W.bk ?_
          obtain ⟨x14, hl, h⟩ := bnd h
          refine W.tr (G1 := [(2, I64 a2), (3, I64 a3), (9, oR eSource_0 [x3, x4]), (10, I64 s5), (11, .obj [iR eTok x11.1.Toks, iR eNon x11.1.Nons, iR eProd_0 x11.1.Prods, SS x11.1.Pro, SS x11.1.Tail]), (13, I64 (-1))]) (.n rfl (.n rfl (.n rfl (.n rfl (.n rfl (.n rfl .nil)))))) ?_
          refine W.lp2 (s := (-1)) (fun (s13 : Int) => [(2, I64 a2), (3, I64 a3), (9, oR eSource_0 [x3, x4]), (10, I64 s5), (11, .obj [iR eTok x11.1.Toks, iR eNon x11.1.Nons, iR eProd_0 x11.1.Prods, SS x11.1.Pro, SS x11.1.Tail]), (13, I64 s13)]) 2 (fun (x15 : Unit) => [(2, I64 a2), (3, I64 a3), (9, oR eSource_0 [x3, x4]), (10, I64 s5), (11, .obj [iR eTok x11.1.Toks, iR eNon x11.1.Nons, iR eProd_0 x11.1.Prods, SS x11.1.Pro, SS x11.1.Tail])]) (fun (x16 : Bool) => [(8, BB x16)]) hl (fun s13 o h => ?_) (fun x15 hx => ?_) (fun x16 hx => ?_)
          · clear hl
            refine W.sq' ?_
            refine W.sq' ?_
            refine W.rx [(2, _), (3, _), (9, _), (10, _), (11, _), (13, _), (50, _)] (RunL.v (O.mv (.lit rfl)) rfl rfl .none <| RunL.v (O.fO rfl (.obj rfl) fd38_2 rfl) rfl rfl .none <| RunL.v (O.ldO (y := iR eProd_0 x11.1.Prods) rfl (.ptr rfl) ct36 rfl rfl) rfl rfl .none <| RunL.v (O.lenI (.imm rfl) sl36) rfl rfl .none <| RunL.v (O.leq (.lit rfl) (.lit rfl)) rfl rfl .none <| RunL.fin (.n rfl (.n rfl (.n rfl (.n rfl (.n rfl (.n rfl (.n rfl .nil)))))))) ?_
            refine Px.sq ?_
            refine W.cnd rfl (fun hb17 => ?_) (fun hb17 => ?_)
            · replace h := cndT hb17 h
              refine W.sk ?_
              refine Px.sq ?_
              refine W.sq' ?_
              refine W.bk ?_
              refine W.sq' ?_
              obtain ⟨x18, hx18, h⟩ := bnd h
              refine W.rx [(2, _), (3, _), (9, _), (10, _), (11, _), (13, _), (14, _), (15, _)] (RunL.v (O.ldON (cs' := [iR eTok x11.1.Toks, iR eNon x11.1.Nons, iR eProd_0 x11.1.Prods, SS x11.1.Pro, SS x11.1.Tail]) rfl (.obj rfl) at38 rfl rfl) rfl rfl .none <| RunL.v (O.mv (.lit rfl)) rfl rfl .none <| RunL.c (PC.go (.cc (.aggF rfl rfl) (.cc (.lit rfl) .nil)) (con19 x11.1 s13 _ hx18) call19 rfl) rfl rfl .none <| RunL.v (O.mv (.tupF rfl rfl)) rfl rfl .none <| RunL.v (O.ex (y := I64 x18.1) rfl rfl rfl) rfl rfl .none <| RunL.v (O.ex (y := I64 x18.2) rfl rfl rfl) rfl rfl .none <| RunL.v (O.as (.lit rfl)) rfl rfl .none <| RunL.v (O.as (.lit rfl)) rfl rfl .none <| RunL.fin (.n rfl (.n rfl (.n rfl (.n rfl (.n rfl (.n rfl (.n rfl (.n rfl .nil))))))))) ?_
              refine Px.sq ?_
              refine W.sq' ?_
              obtain ⟨x19, hx19, h⟩ := bnd h
              refine W.rx [(2, _), (3, _), (9, _), (10, _), (11, _), (13, _), (14, _), (15, _), (16, _), (17, _)] (RunL.v (O.ldON (cs' := [iR eTok x11.1.Toks, iR eNon x11.1.Nons, iR eProd_0 x11.1.Prods, SS x11.1.Pro, SS x11.1.Tail]) rfl (.obj rfl) at38 rfl rfl) rfl rfl .none <| RunL.v (O.mv (.lit rfl)) rfl rfl .none <| RunL.c (PC.go (.cc (.aggF rfl rfl) (.cc (.lit rfl) .nil)) (con20 x11.1 s13 _ hx19) call20 rfl) rfl rfl .none <| RunL.v (O.mv (.tupF rfl rfl)) rfl rfl .none <| RunL.v (O.ex (y := I64 x19.1) rfl rfl rfl) rfl rfl .none <| RunL.v (O.ex (y := I64 x19.2) rfl rfl rfl) rfl rfl .none <| RunL.v (O.as (.lit rfl)) rfl rfl .none <| RunL.v (O.as (.lit rfl)) rfl rfl .none <| RunL.fin (.n rfl (.n rfl (.n rfl (.n rfl (.n rfl (.n rfl (.n rfl (.n rfl (.n rfl (.n rfl .nil))))))))))) ?_
              refine Px.sq ?_
              refine W.sq' ?_
              refine W.sq' ?_
              obtain ⟨c24, hj, h⟩ := bnd h
              refine W.rd [[], [], [0, 1], [0, 1, 2], [0, 1, 2, 3], [0, 1, 2, 3], [0, 1, 2, 3, 4, 5], [0, 1, 2, 3, 4, 5, 6], [0, 1, 2, 3, 4, 5, 6, 7], [0, 1, 2, 3, 4, 5, 6, 7, 8], [0, 1, 2, 3, 4, 5, 6, 7, 8], [0, 1, 2, 3, 4, 5, 6, 7, 8], [0, 1, 2, 3, 4, 5, 6, 7, 8, 9, 10, 11], [0, 1, 2, 3, 4, 5, 6, 7, 8], [0, 1, 2, 3, 4, 5, 6, 7, 8], [0, 1, 2, 3, 4, 5, 6, 7, 8], [0, 1, 2, 3, 4, 5, 6, 7, 8, 9, 10, 11, 12, 13, 14, 15], [0, 1, 2, 3, 4, 5, 6, 7, 8, 9, 10, 11, 12, 13, 14, 15, 16], [0, 1, 2, 3, 4, 5, 6, 7, 8, 9, 10, 11, 12, 13, 14, 15, 16, 17]] [(2, I64 a2), (3, I64 a3), (9, oR eSource_0 [x3, x4]), (10, I64 s5), (11, .obj [iR eTok x11.1.Toks, iR eNon x11.1.Nons, iR eProd_0 x11.1.Prods, SS x11.1.Pro, SS x11.1.Tail]), (13, I64 s13), (83, BB c24)] mixo (by kernel_rfl) ?_ ?_
              · refine DL.v 0 (O.mv (.lit rfl)) rfl rfl rfl rfl .none <| DL.v 1 (O.mv (.lit rfl)) rfl rfl rfl rfl .none <| DL.v 2 (O.neq (.lit rfl) (.lit rfl)) rfl rfl rfl rfl .none <| DL.v 3 (O.mv (.lit rfl)) rfl rfl rfl rfl .none ?_
                rcases cnd hj with ⟨hb20, hj⟩ | ⟨hb20, hj⟩
                · obtain rfl := sm hj
                  exact DL.ps 4 rfl rfl hb20 rfl rfl rfl rfl <| DL.ps 5 rfl rfl hb20 rfl rfl rfl rfl <| DL.ps 6 rfl rfl hb20 rfl rfl rfl rfl <| DL.v 7 (O.pkT (.lit rfl) hb20 (.k rfl)) rfl rfl rfl rfl .none <| DL.v 8 (O.mv (.lit rfl)) rfl rfl rfl rfl .none <| DL.ps 9 rfl rfl rfl rfl rfl rfl rfl <| DL.ps 10 rfl rfl rfl rfl rfl rfl rfl <| DL.ps 11 rfl rfl rfl rfl rfl rfl rfl <| DL.ps 12 rfl rfl rfl rfl rfl rfl rfl <| DL.ps 13 rfl rfl rfl rfl rfl rfl rfl <| DL.ps 14 rfl rfl rfl rfl rfl rfl rfl <| DL.ps 15 rfl rfl rfl rfl rfl rfl rfl <| DL.ps 16 rfl rfl rfl rfl rfl rfl rfl <| DL.ps 17 rfl rfl rfl rfl rfl rfl rfl <| DL.v 18 (O.pkT (.lit rfl) rfl (.k rfl)) rfl rfl rfl rfl .none <| DL.fin rfl rfl rfl (.n rfl (.n rfl (.n rfl (.n rfl (.n rfl (.n rfl (.n rfl .nil)))))))
                · refine DL.v 4 (O.mv (.lit rfl)) rfl rfl rfl rfl (.yb rfl rfl hb20) <| DL.v 5 (O.mv (.lit rfl)) rfl rfl rfl rfl (.yb rfl rfl hb20) <| DL.v 6 (O.neq (.lit rfl) (.lit rfl)) rfl rfl rfl rfl (.yb rfl rfl hb20) <| DL.v 7 (O.pkF (.lit rfl) hb20 (.lit rfl)) rfl rfl rfl rfl .none <| DL.v 8 (O.mv (.lit rfl)) rfl rfl rfl rfl .none ?_
                  rcases cnd hj with ⟨hb21, hj⟩ | ⟨hb21, hj⟩
                  · obtain rfl := sm hj
                    exact DL.ps 9 rfl rfl hb21 rfl rfl rfl rfl <| DL.ps 10 rfl rfl hb21 rfl rfl rfl rfl <| DL.ps 11 rfl rfl hb21 rfl rfl rfl rfl <| DL.ps 12 rfl rfl hb21 rfl rfl rfl rfl <| DL.ps 13 rfl rfl hb21 rfl rfl rfl rfl <| DL.ps 14 rfl rfl hb21 rfl rfl rfl rfl <| DL.ps 15 rfl rfl hb21 rfl rfl rfl rfl <| DL.ps 16 rfl rfl hb21 rfl rfl rfl rfl <| DL.ps 17 rfl rfl hb21 rfl rfl rfl rfl <| DL.v 18 (O.pkT (.lit rfl) hb21 (.k rfl)) rfl rfl rfl rfl .none <| DL.fin rfl rfl rfl (.n rfl (.n rfl (.n rfl (.n rfl (.n rfl (.n rfl (.n rfl .nil)))))))
                  · refine DL.v 9 (O.ldON (cs' := [iR eTok x11.1.Toks, iR eNon x11.1.Nons, iR eProd_0 x11.1.Prods, SS x11.1.Pro, SS x11.1.Tail]) rfl (.obj rfl) at38 rfl rfl) rfl rfl rfl rfl (.yb rfl rfl hb21) <| DL.v 10 (O.mv (.lit rfl)) rfl rfl rfl rfl (.yb rfl rfl hb21) <| DL.v 11 (O.mv (.lit rfl)) rfl rfl rfl rfl (.yb rfl rfl hb21) ?_
                    obtain ⟨x22, hx22, hj⟩ := bnd hj
                    refine DL.c 12 (PC.go (.cc (.aggF rfl rfl) (.cc (.lit rfl) (.cc (.lit rfl) .nil))) (con21 x11.1 s13 a3 _ hx22) call21 rfl) rfl rfl rfl rfl (.yb rfl rfl hb21) <| DL.v 13 (O.ldON (cs' := [iR eTok x11.1.Toks, iR eNon x11.1.Nons, iR eProd_0 x11.1.Prods, SS x11.1.Pro, SS x11.1.Tail]) rfl (.obj rfl) at38 rfl rfl) rfl rfl rfl rfl (.yb rfl rfl hb21) <| DL.v 14 (O.mv (.lit rfl)) rfl rfl rfl rfl (.yb rfl rfl hb21) <| DL.v 15 (O.mv (.lit rfl)) rfl rfl rfl rfl (.yb rfl rfl hb21) ?_
                    obtain ⟨x23, hx23, hj⟩ := bnd hj
                    obtain rfl := sm hj
                    exact DL.c 16 (PC.go (.cc (.aggF rfl rfl) (.cc (.lit rfl) (.cc (.lit rfl) .nil))) (con22 x11.1 s13 a3 _ hx23) call22 rfl) rfl rfl rfl rfl (.yb rfl rfl hb21) <| DL.v 17 (O.neq (.lit rfl) (.lit rfl)) rfl rfl rfl rfl (.yb rfl rfl hb21) <| DL.v 18 (O.pkF (.lit rfl) hb21 (.lit rfl)) rfl rfl rfl rfl .none <| DL.fin rfl rfl rfl (.n rfl (.n rfl (.n rfl (.n rfl (.n rfl (.n rfl (.n rfl .nil)))))))
              refine Px.sq ?_
              refine W.cnd rfl (fun hb25 => ?_) (fun hb25 => ?_)
              · replace h := cndT hb25 h
                refine W.sq' ?_
                refine W.rx [(8, _)] (RunL.v (O.as (.k rfl)) rfl rfl .none <| RunL.fin (.n rfl .nil)) ?_
                refine Px.sq ?_
                refine W.rt ?_
                refine Px.sqR ?_
                refine Px.bkR ?_
                refine Px.sqR ?_
                obtain rfl := sm h
                exact Px.r2 (.n rfl .nil)
              · replace h := cndF hb25 h
                refine W.sk ?_
                refine Px.sq ?_
                refine W.sq' ?_
                refine W.rx [(2, _), (3, _), (9, _), (10, _), (11, _), (13, _), (18, _)] (RunL.v (O.as (.k rfl)) rfl rfl .none <| RunL.fin (.n rfl (.n rfl (.n rfl (.n rfl (.n rfl (.n rfl (.n rfl .nil)))))))) ?_
                refine Px.sq ?_
                refine W.bk ?_
                obtain ⟨x27, hl, h⟩ := bnd h
                refine W.tr (G1 := [(2, I64 a2), (3, I64 a3), (9, oR eSource_0 [x3, x4]), (10, I64 s5), (11, .obj [iR eTok x11.1.Toks, iR eNon x11.1.Nons, iR eProd_0 x11.1.Prods, SS x11.1.Pro, SS x11.1.Tail]), (13, I64 s13), (18, I64 (-1))]) (.n rfl (.n rfl (.n rfl (.n rfl (.n rfl (.n rfl (.n rfl .nil))))))) ?_
                refine W.lp2 (s := (-1)) (fun (s26 : Int) => [(2, I64 a2), (3, I64 a3), (9, oR eSource_0 [x3, x4]), (10, I64 s5), (11, .obj [iR eTok x11.1.Toks, iR eNon x11.1.Nons, iR eProd_0 x11.1.Prods, SS x11.1.Pro, SS x11.1.Tail]), (13, I64 s13), (18, I64 s26)]) 4 (fun (x28 : Unit) => [(2, I64 a2), (3, I64 a3), (9, oR eSource_0 [x3, x4]), (10, I64 s5), (11, .obj [iR eTok x11.1.Toks, iR eNon x11.1.Nons, iR eProd_0 x11.1.Prods, SS x11.1.Pro, SS x11.1.Tail]), (13, I64 s13)]) (fun (x29 : Bool) => [(8, BB x29)]) hl (fun s26 o h => ?_) (fun x28 hx => ?_) (fun x29 hx => ?_)
                · clear hl
                  refine W.sq' ?_
                  refine W.sq' ?_
                  refine W.rx [(2, _), (3, _), (9, _), (10, _), (11, _), (13, _), (18, _), (88, _)] (RunL.v (O.mv (.lit rfl)) rfl rfl .none <| RunL.v (O.fO rfl (.obj rfl) fd38_0 rfl) rfl rfl .none <| RunL.v (O.ldO (y := iR eTok x11.1.Toks) rfl (.ptr rfl) ct34 rfl rfl) rfl rfl .none <| RunL.v (O.lenI (.imm rfl) sl34) rfl rfl .none <| RunL.v (O.leq (.lit rfl) (.lit rfl)) rfl rfl .none <| RunL.fin (.n rfl (.n rfl (.n rfl (.n rfl (.n rfl (.n rfl (.n rfl (.n rfl .nil))))))))) ?_
                  refine Px.sq ?_
                  refine W.cnd rfl (fun hb30 => ?_) (fun hb30 => ?_)
                  · replace h := cndT hb30 h
                    refine W.sk ?_
                    refine Px.sq ?_
                    refine W.sq' ?_
                    refine W.bk ?_
                    refine W.sq' ?_
                    obtain ⟨x31, hx31, h⟩ := bnd h
                    obtain ⟨x32, hx32, h⟩ := bnd h
                    refine W.rd [[], [], [], [0, 1, 2], [], [], [], [0, 1, 2, 3, 4, 5, 6], [0, 1, 2, 3, 4, 5, 6, 7]] [(2, _), (3, _), (9, _), (10, _), (11, _), (13, _), (18, _), (99, _)] mixo (by kernel_rfl) (DL.v 0 (O.ldON (cs' := [iR eTok x11.1.Toks, iR eNon x11.1.Nons, iR eProd_0 x11.1.Prods, SS x11.1.Pro, SS x11.1.Tail]) rfl (.obj rfl) at38 rfl rfl) rfl rfl rfl rfl .none <| DL.v 1 (O.mv (.lit rfl)) rfl rfl rfl rfl .none <| DL.v 2 (O.mv (.lit rfl)) rfl rfl rfl rfl .none <| DL.c 3 (PC.go (.cc (.aggF rfl rfl) (.cc (.lit rfl) (.cc (.lit rfl) .nil))) (con21 x11.1 s13 s26 _ hx31) call21 rfl) rfl rfl rfl rfl .none <| DL.v 4 (O.ldON (cs' := [iR eTok x11.1.Toks, iR eNon x11.1.Nons, iR eProd_0 x11.1.Prods, SS x11.1.Pro, SS x11.1.Tail]) rfl (.obj rfl) at38 rfl rfl) rfl rfl rfl rfl .none <| DL.v 5 (O.mv (.lit rfl)) rfl rfl rfl rfl .none <| DL.v 6 (O.mv (.lit rfl)) rfl rfl rfl rfl .none <| DL.c 7 (PC.go (.cc (.aggF rfl rfl) (.cc (.lit rfl) (.cc (.lit rfl) .nil))) (con22 x11.1 s13 s26 _ hx32) call22 rfl) rfl rfl rfl rfl .none <| DL.v 8 (O.neq (.lit rfl) (.lit rfl)) rfl rfl rfl rfl .none <| DL.fin rfl rfl rfl (.n rfl (.n rfl (.n rfl (.n rfl (.n rfl (.n rfl (.n rfl (.n rfl .nil))))))))) ?_
                    refine Px.sq ?_
                    refine W.cnd rfl (fun hb33 => ?_) (fun hb33 => ?_)
                    · replace h := cndT hb33 h
                      refine W.sq' ?_
                      refine W.rx [(8, _)] (RunL.v (O.as (.k rfl)) rfl rfl .none <| RunL.fin (.n rfl .nil)) ?_
                      refine Px.sq ?_
                      refine W.rt ?_
                      refine Px.bkR ?_
                      refine Px.sqR ?_
                      obtain rfl := sm h
                      exact Px.r2 (.n rfl .nil)
                    · replace h := cndF hb33 h
                      refine W.sk ?_
                      refine Px.bk ?_
                      refine Px.sq ?_
                      refine W.rx [(2, _), (3, _), (9, _), (10, _), (11, _), (13, _), (18, _)] (RunL.v (O.mv (.lit rfl)) rfl rfl .none <| RunL.v (O.add (.lit rfl) (.k rfl)) rfl rfl .none <| RunL.re (G1 := [(2, I64 a2), (3, I64 a3), (9, oR eSource_0 [x3, x4]), (10, I64 s5), (11, .obj [iR eTok x11.1.Toks, iR eNon x11.1.Nons, iR eProd_0 x11.1.Prods, SS x11.1.Pro, SS x11.1.Tail]), (13, I64 s13), (90, I64 (w64 (s26 + 1)))]) (.n rfl (.n rfl (.n rfl (.n rfl (.n rfl (.n rfl (.n rfl .nil))))))) <| RunL.v (O.as (.lit rfl)) rfl rfl .none <| RunL.fin (.n rfl (.n rfl (.n rfl (.n rfl (.n rfl (.n rfl (.n rfl .nil)))))))) ?_
                      obtain rfl := sm h
                      exact Px.go (.n rfl (.n rfl (.n rfl (.n rfl (.n rfl (.n rfl (.n rfl .nil)))))))
                  · replace h := cndF hb30 h
                    refine W.xi ?_
                    refine Px.sqE ?_
                    obtain rfl := sm h
                    exact Px.x2 (.n rfl (.n rfl (.n rfl (.n rfl (.n rfl (.n rfl .nil))))))
                · subst hx
                  refine Px.bkH ?_
                  refine Px.bk ?_
                  refine Px.sq ?_
                  refine W.rx [(2, _), (3, _), (9, _), (10, _), (11, _), (13, _)] (RunL.v (O.mv (.lit rfl)) rfl rfl .none <| RunL.v (O.add (.lit rfl) (.k rfl)) rfl rfl .none <| RunL.re (G1 := [(2, I64 a2), (3, I64 a3), (9, oR eSource_0 [x3, x4]), (10, I64 s5), (11, .obj [iR eTok x11.1.Toks, iR eNon x11.1.Nons, iR eProd_0 x11.1.Prods, SS x11.1.Pro, SS x11.1.Tail]), (52, I64 (w64 (s13 + 1)))]) (.n rfl (.n rfl (.n rfl (.n rfl (.n rfl (.n rfl .nil)))))) <| RunL.v (O.as (.lit rfl)) rfl rfl .none <| RunL.fin (.n rfl (.n rfl (.n rfl (.n rfl (.n rfl (.n rfl .nil))))))) ?_
                  obtain rfl := sm h
                  exact Px.go (.n rfl (.n rfl (.n rfl (.n rfl (.n rfl (.n rfl .nil))))))
                · subst hx
                  refine Px.bkR ?_
                  refine Px.bkR ?_
                  refine Px.sqR ?_
                  obtain rfl := sm h
                  exact Px.r2 (.n rfl .nil)
            · replace h := cndF hb17 h
              refine W.xi ?_
              refine Px.sqE ?_
              obtain rfl := sm h
              exact Px.x2 (.n rfl (.n rfl (.n rfl (.n rfl (.n rfl .nil)))))
          · subst hx
            refine Px.bkH ?_
            refine Px.sq ?_
            refine W.sq' ?_
            obtain ⟨x34, hx34, h⟩ := bnd h
            refine W.rx [(2, _), (3, _), (9, _), (10, _), (11, _), (19, _), (20, _)] (RunL.v (O.ldON (cs' := [iR eTok x11.1.Toks, iR eNon x11.1.Nons, iR eProd_0 x11.1.Prods, SS x11.1.Pro, SS x11.1.Tail]) rfl (.obj rfl) at38 rfl rfl) rfl rfl .none <| RunL.v (O.mv (.lit rfl)) rfl rfl .none <| RunL.c (PC.go (.cc (.aggF rfl rfl) (.cc (.lit rfl) .nil)) (con19 x11.1 a2 _ hx34) call19 rfl) rfl rfl .none <| RunL.v (O.mv (.tupF rfl rfl)) rfl rfl .none <| RunL.v (O.ex (y := I64 x34.1) rfl rfl rfl) rfl rfl .none <| RunL.v (O.ex (y := I64 x34.2) rfl rfl rfl) rfl rfl .none <| RunL.v (O.as (.lit rfl)) rfl rfl .none <| RunL.v (O.as (.lit rfl)) rfl rfl .none <| RunL.fin (.n rfl (.n rfl (.n rfl (.n rfl (.n rfl (.n rfl (.n rfl .nil)))))))) ?_
            refine Px.sq ?_
            refine W.sq' ?_
            obtain ⟨x35, hx35, h⟩ := bnd h
            refine W.rx [(2, _), (3, _), (9, _), (10, _), (11, _), (19, _), (20, _), (21, _), (22, _)] (RunL.v (O.ldON (cs' := [iR eTok x11.1.Toks, iR eNon x11.1.Nons, iR eProd_0 x11.1.Prods, SS x11.1.Pro, SS x11.1.Tail]) rfl (.obj rfl) at38 rfl rfl) rfl rfl .none <| RunL.v (O.mv (.lit rfl)) rfl rfl .none <| RunL.c (PC.go (.cc (.aggF rfl rfl) (.cc (.lit rfl) .nil)) (con20 x11.1 a2 _ hx35) call20 rfl) rfl rfl .none <| RunL.v (O.mv (.tupF rfl rfl)) rfl rfl .none <| RunL.v (O.ex (y := I64 x35.1) rfl rfl rfl) rfl rfl .none <| RunL.v (O.ex (y := I64 x35.2) rfl rfl rfl) rfl rfl .none <| RunL.v (O.as (.lit rfl)) rfl rfl .none <| RunL.v (O.as (.lit rfl)) rfl rfl .none <| RunL.fin (.n rfl (.n rfl (.n rfl (.n rfl (.n rfl (.n rfl (.n rfl (.n rfl (.n rfl .nil)))))))))) ?_
            refine Px.sq ?_
            refine W.sq' ?_
            obtain ⟨c40, hj, h⟩ := bnd h
            refine W.rd [[], [], [0, 1], [0, 1, 2], [0, 1, 2, 3], [0, 1, 2, 3], [0, 1, 2, 3, 4, 5], [0, 1, 2, 3, 4, 5, 6], [0, 1, 2, 3, 4, 5, 6, 7], [0, 1, 2, 3, 4, 5, 6, 7, 8], [0, 1, 2, 3, 4, 5, 6, 7, 8], [0, 1, 2, 3, 4, 5, 6, 7, 8], [0, 1, 2, 3, 4, 5, 6, 7, 8, 9, 10, 11], [0, 1, 2, 3, 4, 5, 6, 7, 8], [0, 1, 2, 3, 4, 5, 6, 7, 8], [0, 1, 2, 3, 4, 5, 6, 7, 8], [0, 1, 2, 3, 4, 5, 6, 7, 8, 9, 10, 11, 12, 13, 14, 15], [0, 1, 2, 3, 4, 5, 6, 7, 8, 9, 10, 11, 12, 13, 14, 15, 16], [0, 1, 2, 3, 4, 5, 6, 7, 8, 9, 10, 11, 12, 13, 14, 15, 16, 17]] [(2, I64 a2), (3, I64 a3), (9, oR eSource_0 [x3, x4]), (10, I64 s5), (130, BB c40)] mixo (by kernel_rfl) ?_ ?_
            · refine DL.v 0 (O.mv (.lit rfl)) rfl rfl rfl rfl .none <| DL.v 1 (O.mv (.lit rfl)) rfl rfl rfl rfl .none <| DL.v 2 (O.neq (.lit rfl) (.lit rfl)) rfl rfl rfl rfl .none <| DL.v 3 (O.mv (.lit rfl)) rfl rfl rfl rfl .none ?_
              rcases cnd hj with ⟨hb36, hj⟩ | ⟨hb36, hj⟩
              · obtain rfl := sm hj
                exact DL.ps 4 rfl rfl hb36 rfl rfl rfl rfl <| DL.ps 5 rfl rfl hb36 rfl rfl rfl rfl <| DL.ps 6 rfl rfl hb36 rfl rfl rfl rfl <| DL.v 7 (O.pkT (.lit rfl) hb36 (.k rfl)) rfl rfl rfl rfl .none <| DL.v 8 (O.mv (.lit rfl)) rfl rfl rfl rfl .none <| DL.ps 9 rfl rfl rfl rfl rfl rfl rfl <| DL.ps 10 rfl rfl rfl rfl rfl rfl rfl <| DL.ps 11 rfl rfl rfl rfl rfl rfl rfl <| DL.ps 12 rfl rfl rfl rfl rfl rfl rfl <| DL.ps 13 rfl rfl rfl rfl rfl rfl rfl <| DL.ps 14 rfl rfl rfl rfl rfl rfl rfl <| DL.ps 15 rfl rfl rfl rfl rfl rfl rfl <| DL.ps 16 rfl rfl rfl rfl rfl rfl rfl <| DL.ps 17 rfl rfl rfl rfl rfl rfl rfl <| DL.v 18 (O.pkT (.lit rfl) rfl (.k rfl)) rfl rfl rfl rfl .none <| DL.fin rfl rfl rfl (.n rfl (.n rfl (.n rfl (.n rfl (.n rfl .nil)))))
              · refine DL.v 4 (O.mv (.lit rfl)) rfl rfl rfl rfl (.yb rfl rfl hb36) <| DL.v 5 (O.mv (.lit rfl)) rfl rfl rfl rfl (.yb rfl rfl hb36) <| DL.v 6 (O.neq (.lit rfl) (.lit rfl)) rfl rfl rfl rfl (.yb rfl rfl hb36) <| DL.v 7 (O.pkF (.lit rfl) hb36 (.lit rfl)) rfl rfl rfl rfl .none <| DL.v 8 (O.mv (.lit rfl)) rfl rfl rfl rfl .none ?_
                rcases cnd hj with ⟨hb37, hj⟩ | ⟨hb37, hj⟩
                · obtain rfl := sm hj
                  exact DL.ps 9 rfl rfl hb37 rfl rfl rfl rfl <| DL.ps 10 rfl rfl hb37 rfl rfl rfl rfl <| DL.ps 11 rfl rfl hb37 rfl rfl rfl rfl <| DL.ps 12 rfl rfl hb37 rfl rfl rfl rfl <| DL.ps 13 rfl rfl hb37 rfl rfl rfl rfl <| DL.ps 14 rfl rfl hb37 rfl rfl rfl rfl <| DL.ps 15 rfl rfl hb37 rfl rfl rfl rfl <| DL.ps 16 rfl rfl hb37 rfl rfl rfl rfl <| DL.ps 17 rfl rfl hb37 rfl rfl rfl rfl <| DL.v 18 (O.pkT (.lit rfl) hb37 (.k rfl)) rfl rfl rfl rfl .none <| DL.fin rfl rfl rfl (.n rfl (.n rfl (.n rfl (.n rfl (.n rfl .nil)))))
                · refine DL.v 9 (O.ldON (cs' := [iR eTok x11.1.Toks, iR eNon x11.1.Nons, iR eProd_0 x11.1.Prods, SS x11.1.Pro, SS x11.1.Tail]) rfl (.obj rfl) at38 rfl rfl) rfl rfl rfl rfl (.yb rfl rfl hb37) <| DL.v 10 (O.mv (.lit rfl)) rfl rfl rfl rfl (.yb rfl rfl hb37) <| DL.v 11 (O.mv (.lit rfl)) rfl rfl rfl rfl (.yb rfl rfl hb37) ?_
                  obtain ⟨x38, hx38, hj⟩ := bnd hj
                  refine DL.c 12 (PC.go (.cc (.aggF rfl rfl) (.cc (.lit rfl) (.cc (.lit rfl) .nil))) (con21 x11.1 a2 a3 _ hx38) call21 rfl) rfl rfl rfl rfl (.yb rfl rfl hb37) <| DL.v 13 (O.ldON (cs' := [iR eTok x11.1.Toks, iR eNon x11.1.Nons, iR eProd_0 x11.1.Prods, SS x11.1.Pro, SS x11.1.Tail]) rfl (.obj rfl) at38 rfl rfl) rfl rfl rfl rfl (.yb rfl rfl hb37) <| DL.v 14 (O.mv (.lit rfl)) rfl rfl rfl rfl (.yb rfl rfl hb37) <| DL.v 15 (O.mv (.lit rfl)) rfl rfl rfl rfl (.yb rfl rfl hb37) ?_
                  obtain ⟨x39, hx39, hj⟩ := bnd hj
                  obtain rfl := sm hj
                  exact DL.c 16 (PC.go (.cc (.aggF rfl rfl) (.cc (.lit rfl) (.cc (.lit rfl) .nil))) (con22 x11.1 a2 a3 _ hx39) call22 rfl) rfl rfl rfl rfl (.yb rfl rfl hb37) <| DL.v 17 (O.neq (.lit rfl) (.lit rfl)) rfl rfl rfl rfl (.yb rfl rfl hb37) <| DL.v 18 (O.pkF (.lit rfl) hb37 (.lit rfl)) rfl rfl rfl rfl .none <| DL.fin rfl rfl rfl (.n rfl (.n rfl (.n rfl (.n rfl (.n rfl .nil)))))
            refine Px.sq ?_
            refine W.cnd rfl (fun hb41 => ?_) (fun hb41 => ?_)
            · replace h := cndT hb41 h
              refine W.sq' ?_
              refine W.rx [(8, _)] (RunL.v (O.as (.k rfl)) rfl rfl .none <| RunL.fin (.n rfl .nil)) ?_
              refine Px.sq ?_
              refine W.rt ?_
              refine Px.bkR ?_
              refine Px.sqR ?_
              obtain rfl := sm h
              exact Px.r2 (.n rfl .nil)
            · replace h := cndF hb41 h
              refine W.sk ?_
              refine Px.bk ?_
              refine Px.sq ?_
              refine W.rx [(2, _), (3, _), (9, _), (10, _)] (RunL.v (O.mv (.lit rfl)) rfl rfl .none <| RunL.v (O.add (.lit rfl) (.k rfl)) rfl rfl .none <| RunL.re (G1 := [(2, I64 a2), (3, I64 a3), (9, oR eSource_0 [x3, x4]), (35, I64 (w64 (s5 + 1)))]) (.n rfl (.n rfl (.n rfl (.n rfl .nil)))) <| RunL.v (O.as (.lit rfl)) rfl rfl .none <| RunL.fin (.n rfl (.n rfl (.n rfl (.n rfl .nil))))) ?_
              obtain rfl := sm h
              exact Px.go (.n rfl (.n rfl (.n rfl (.n rfl .nil))))
          · subst hx
            refine Px.bkR ?_
            refine Px.sqR ?_
            refine Px.bkR ?_
            refine Px.sqR ?_
            obtain rfl := sm h
            exact Px.r2 (.n rfl .nil)
      · replace h := cndF hb9 h
        refine W.xi ?_
        refine Px.sqE ?_
        obtain rfl := sm h
        exact Px.x2 .nil
    · subst hx
      refine Px.bkH ?_
      refine Px.sq ?_
      refine W.sq' ?_
      refine W.rx [(8, _)] (RunL.v (O.as (.k rfl)) rfl rfl .none <| RunL.fin (.n rfl .nil)) ?_
      refine Px.sq ?_
      refine W.rt ?_
      obtain rfl := sm h
      exact Px.fin (Fin.ro (.f rfl rfl .nil) rfl (of_decide_eq_true (by kernel_rfl)) (.no (.no (.no (.no .nil)))) rfl (.inr rfl))
    · subst hx
      refine Px.bkR ?_
      refine Px.sqR ?_
      obtain rfl := sm h
      exact Px.fin (Fin.ro (.f rfl rfl .nil) rfl (of_decide_eq_true (by kernel_rfl)) (.no (.no (.no (.no .nil)))) rfl (.inr rfl))
end Go.Proofs
namespace Go.Own
open Go
variable {α β S R : Type}
abbrev LR (p : S → Prop) (q : R → Prop) (x : S ⊕ R) : Prop := Sum.elim p q x
def Tot (x : Option α) (Φ : α → Prop) : Prop := ∃ a, x = some a ∧ Φ a
namespace Tot
variable {Φ Ψ : α → Prop}
theorem so {a : α} (h : Φ a) : Tot (some a) Φ := ⟨a, rfl, h⟩
theorem bi {x : Option β} {f : β → Option α} (h : Tot x fun a => Tot (f a) Φ) : Tot (x.bind f) Φ := by
  obtain ⟨a, rfl, b, hb, hΦ⟩ := h
  exact ⟨b, hb, hΦ⟩
theorem sm {f : β → Option α} {a : β} (h : Tot (f a) Φ) : Tot ((some a).bind f) Φ := h
theorem use {x : Option α} (h : Tot x Ψ) (hi : ∀ a, Ψ a → Φ a) : Tot x Φ := by
  obtain ⟨a, ha, hΨ⟩ := h
  exact ⟨a, ha, hi a hΨ⟩
theorem by' {x : Option β} {f : β → Option α} {Ξ : β → Prop} (h : Tot x Ξ) (hk : ∀ a, Ξ a → Tot (f a) Φ) : Tot (x.bind f) Φ := bi (h.use hk)
theorem cd {c : Bool} {a b : Option α} (ht : c = true → Tot a Φ) (hf : c = false → Tot b Φ) : Tot (cond c a b) Φ := by
  cases c
  · exact hf rfl
  · exact ht rfl
theorem cp {p : Prop} [Decidable p] {a b : Option α} (ht : p → Tot a Φ) (hf : ¬ p → Tot b Φ) : Tot (cond (decide p) a b) Φ :=
  cd (fun h => ht (of_decide_eq_true h)) (fun h => hf (of_decide_eq_false h))
theorem cn {p : Prop} [Decidable p] {a b : Option α} (ht : ¬ p → Tot a Φ) (hf : p → Tot b Φ) : Tot (cond (!decide p) a b) Φ :=
  cd (fun h => ht (of_decide_eq_false (by simpa using h))) (fun h => hf (of_decide_eq_true (by simpa using h)))
theorem ix {l : List α} {i : Int} (h0 : 0 ≤ i) (h1 : i < l.length) (hk : ∀ y, idx l i = some y → y ∈ l → Φ y) : Tot (idx l i) Φ := by
  have hlt : i.toNat < l.length := by omega
  have : idx l i = some l[i.toNat] := by simp [idx, h0, hlt]
  exact ⟨_, this, hk _ this (List.getElem_mem hlt)⟩
theorem ap {Φ : List α → Prop} {l m : List α} (h : l.length + m.length ≤ lim) (hk : Φ (l ++ m)) : Tot (appO l m) Φ := by
  refine ⟨l ++ m, ?_, hk⟩
  unfold appO
  rw [if_pos h]
theorem loop {f : S → Option (S ⊕ R)} {s0 : S} {Ψ : R → Prop} (Inv : S → Prop) (μ : S → Nat) (h0 : Inv s0) (hμ : μ s0 < fuel)
    (hs : ∀ s, Inv s → Tot (f s) (LR (fun s' => Inv s' ∧ μ s' < μ s) Ψ)) : Tot (loopM f s0) Ψ := by
  have key : ∀ n s, Inv s → μ s < n → Tot (iter f n s) Ψ := by
    intro n
    induction n with
    | zero => intro s _ h; omega
    | succ n ih =>
      intro s hI hm
      obtain ⟨x, hx, hP⟩ := hs s hI
      cases x with
      | inl s' =>
        obtain ⟨h1, h2⟩ := hP
        simp only [iter, hx]
        exact ih s' h1 (by omega)
      | inr r =>
        simp only [iter, hx]
        exact ⟨r, rfl, hP⟩
  exact key fuel s0 h0 hμ
theorem count {f : S → Option (S ⊕ R)} {s0 : S} {Ψ : R → Prop} (i : S → Int) (n : Int) (Inv : S → Prop) (h0 : Inv s0) (hn : n - i s0 < 1000000000000000000)
    (hs : ∀ s, Inv s → Tot (f s) (LR (fun s' => Inv s' ∧ i s < i s' ∧ i s' ≤ n) Ψ)) : Tot (loopM f s0) Ψ := by
  refine loop Inv (fun s => (n - i s).toNat) h0 (by show (n - i s0).toNat < 1000000000000000000; omega) fun s hI => (hs s hI).use fun x hx => ?_
  cases x with
  | inl s' => exact ⟨hx.1, by have := hx.2; show (n - i s').toNat < (n - i s).toNat; omega⟩
  | inr r => exact hx
end Tot
theorem w64_eq (n : Int) : w64 n = (n + 9223372036854775808) % 18446744073709551616 - 9223372036854775808 := IntKind.wrap_i64 n
namespace Tot
theorem cat {Φ : ByteArray → Prop} {s u : ByteArray} (h : s.size + u.size ≤ 4611686018427387904) (hk : Φ (s ++ u)) : Tot (catO s u) Φ := by
  refine ⟨s ++ u, ?_, hk⟩
  unfold catO
  rw [if_pos h]
theorem cut {Φ : ByteArray → Prop} {s : ByteArray} {m n : Int} (h : 0 ≤ m ∧ m ≤ n ∧ n ≤ s.size) (hk : Φ (cutS s m n)) : Tot (cutO s m n) Φ := by
  refine ⟨_, ?_, hk⟩
  unfold cutO
  rw [if_pos h]
theorem bx {Φ : Int → Prop} {s : ByteArray} {m : Int} (h : 0 ≤ m ∧ m < s.size) (hk : Φ (byteAt s m)) : Tot (bidx s m) Φ := by
  refine ⟨_, ?_, hk⟩
  unfold bidx
  rw [if_pos h]
theorem sub {Φ : List α → Prop} {l : List α} {m n : Int} (h : 0 ≤ m ∧ m ≤ n ∧ n ≤ l.length) (hk : Φ ((l.drop m.toNat).take (n - m).toNat)) : Tot (subO l m n) Φ := by
  refine ⟨_, ?_, hk⟩
  unfold subO
  rw [if_pos h]
theorem rem {Φ : Int → Prop} {m n : Int} (h : n ≠ 0) (hk : Φ (m.tmod n)) : Tot (remO m n) Φ := by
  refine ⟨_, ?_, hk⟩
  unfold remO
  rw [if_neg h]
theorem quo {Φ : Int → Prop} {m n : Int} (h : n ≠ 0) (hk : Φ (w64 (m.tdiv n))) : Tot (quoO m n) Φ := by
  refine ⟨_, ?_, hk⟩
  unfold quoO
  rw [if_neg h]
theorem remU {Φ : Int → Prop} {m n : Int} (h : n ≠ 0) (hk : Φ (m.tmod n)) : Tot (Own.remU m n) Φ := by
  refine ⟨_, ?_, hk⟩
  unfold Own.remU
  rw [if_neg h]
theorem quoU {Φ : Int → Prop} {m n : Int} (h : n ≠ 0) (hk : Φ (IntKind.u64.wrap (m.tdiv n))) : Tot (Own.quoU m n) Φ := by
  refine ⟨_, ?_, hk⟩
  unfold Own.quoU
  rw [if_neg h]
theorem mk {Φ : List α → Prop} {m : Int} {z : α} (h : 0 ≤ m ∧ m ≤ lim) (hk : Φ (List.replicate m.toNat z)) : Tot (mkO m z) Φ := by
  refine ⟨_, ?_, hk⟩
  unfold mkO
  rw [if_pos h]
theorem ex {x : Option α} {Φ : α → Prop} (h : Tot x Φ) : ∃ a, x = some a ∧ Φ a := h
end Tot
namespace Tot
theorem scan {f : Int → Option (Int ⊕ (Unit ⊕ R))} (l : List β) (P : β → Prop) (Q : R → Prop) (hl : l.length ≤ 100000000000000000)
    (hs : ∀ (s : Int) (y : β), 0 ≤ s → s < l.length → idx l s = some y → y ∈ l → Tot (f s) (LR (fun s' => s' = s + 1 ∧ P y) (LR (fun _ => False) Q)))
    (he : ∀ s : Int, ¬ s < l.length → f s = some (.inr (.inl ()))) : Tot (loopM f 0) (LR (fun _ => ∀ y ∈ l, P y) Q) := by
  refine count (fun s => s) l.length (fun s => 0 ≤ s ∧ s ≤ l.length ∧ ∀ (j : Nat) (y : β), (j : Int) < s → l[j]? = some y → P y) ⟨by omega, by omega, fun j y h => by omega⟩ (by show (l.length : Int) - 0 < _; omega) fun s hI => ?_
  obtain ⟨h0, h1, h2⟩ := hI
  by_cases hlt : s < l.length
  · have hlt' : s.toNat < l.length := by omega
    have hi : idx l s = some l[s.toNat] := by simp [idx, h0, hlt']
    refine (hs s _ h0 hlt hi (List.getElem_mem hlt')).use fun x hx => ?_
    rcases x with s' | ⟨⟨⟩⟩ | r
    · obtain ⟨rfl, hP⟩ := hx
      refine ⟨⟨by omega, by omega, fun j y hj hy => ?_⟩, by show s < s + 1; omega, by show s + 1 ≤ _; omega⟩
      by_cases hjs : (j : Int) < s
      · exact h2 j y hjs hy
      · have : j = s.toNat := by omega
        subst this
        rw [List.getElem?_eq_getElem hlt'] at hy
        cases hy; exact hP
    · exact hx.elim
    · exact hx
  · rw [he s hlt]
    refine so fun y hy => ?_
    obtain ⟨j, hj, rfl⟩ := List.mem_iff_getElem.1 hy
    exact h2 j _ (by omega) (List.getElem?_eq_getElem hj)
end Tot
end Go.Own
namespace Go.Proofs
open Go Go.Own
set_option maxRecDepth 100000
set_option linter.unusedVariables false
theorem t105 (c : Int) : Tot (pf105 c) fun _ => True := by
  unfold pf105
  repeat' first | apply Tot.bi | refine Tot.cd (fun _ => ?_) (fun _ => ?_) | exact Tot.so trivial | apply Tot.so
theorem t106 (c : Int) : Tot (pf106 c) fun _ => True := by
  unfold pf106
  repeat' first | apply Tot.bi | refine Tot.cd (fun _ => ?_) (fun _ => ?_) | exact Tot.so trivial | apply Tot.so
theorem t55 (c : Int) : Tot (pf55 c) fun _ => True := by
  unfold pf55
  repeat' first | apply Tot.bi | refine Tot.cd (fun _ => ?_) (fun _ => ?_) | exact Tot.so trivial | apply Tot.so
theorem t92 (x : Sym) : Tot (pf92 x) fun r => r = true → x.Name = { data := #[] } ∧ x.Lit = false := by
  unfold pf92
  apply Tot.bi
  refine Tot.cp (fun h => Tot.cd (fun h2 => ?_) (fun h2 => ?_)) (fun h => ?_) <;> apply Tot.so <;> apply Tot.so
  · exact fun _ => ⟨h, by simpa using h2⟩
  · exact fun h => by cases h
  · exact fun h => by cases h
abbrev big : Nat := 1000000000000
theorem t91 (s : ByteArray) (h : s.size ≤ big) : Tot (pf91 s 0) fun n => 0 ≤ n ∧ n ≤ s.size := by
  unfold pf91
  refine Tot.by' (Ξ := fun n => 0 ≤ n ∧ n ≤ s.size) ?_ fun a ha => .so ha
  refine Tot.count (fun i => i) s.size (fun i => 0 ≤ i ∧ i ≤ s.size) ⟨by omega, by omega⟩ (by show (s.size : Int) - 0 < _; simp only [big] at h; omega) fun i ⟨h0, h1⟩ => ?_
  simp only [big] at h
  have e : w64 (0 + i) = i := by rw [w64_eq]; omega
  rw [e]
  have go : ∀ c : Bool, (c = true → i < s.size) → Tot (bif c then some (.inl (w64 (i + 1))) else some (.inr i)) (LR (fun s' : Int => (0 ≤ s' ∧ s' ≤ s.size) ∧ i < s' ∧ s' ≤ s.size) (fun r : Int => 0 ≤ r ∧ r ≤ s.size)) := by
    intro c hc
    refine Tot.cd (fun h2 => .so ?_) (fun _ => .so ⟨h0, h1⟩)
    have := hc h2
    have e : w64 (i + 1) = i + 1 := by rw [w64_eq]; omega
    show (0 ≤ w64 (i + 1) ∧ w64 (i + 1) ≤ s.size) ∧ i < w64 (i + 1) ∧ w64 (i + 1) ≤ s.size
    rw [e]; omega
  apply Tot.bi
  refine Tot.cp (fun h2 => ?_) (fun h2 => .so (go false (by simp)))
  apply Tot.bi
  refine Tot.bx ⟨h0, h2⟩ (Tot.by' (t105 _) fun c _ => ?_)
  refine Tot.cd (fun _ => .so (go _ fun _ => h2)) (fun _ => Tot.cd (fun _ => ?_) (fun _ => .so (go _ fun _ => h2)))
  apply Tot.bi
  refine Tot.bx ⟨h0, h2⟩ (Tot.by' (t106 _) fun c _ => ?_)
  refine Tot.cd (fun _ => .so (go _ fun _ => h2)) (fun _ => ?_)
  apply Tot.bi
  exact Tot.bx ⟨h0, h2⟩ (.so (go _ fun _ => h2))
theorem t79 (s : ByteArray) (h : s.size ≤ big) : Tot (pf79 s) fun r => r = true → 1 ≤ s.size ∧ s.size ≤ 20 := by
  unfold pf79
  apply Tot.bi
  refine Tot.cp (fun h1 => Tot.cp (fun h2 => ?_) (fun h2 => ?_)) (fun h1 => ?_)
  · exact .by' (t91 s h) fun n hn => .so (.so fun _ => by omega)
  · exact .so (.so fun h => by cases h)
  · exact .so (.so fun h => by cases h)
theorem t116 (s : ByteArray) (i : Int) (t : ByteArray) (h : s.size ≤ big) (h0 : 0 ≤ i) (h1 : i ≤ 4 * big) (ht : t.size ≤ big) : Tot (pf116 s i t) fun r => r = true → i + t.size ≤ s.size := by
  unfold pf116
  simp only [big] at *
  apply Tot.bi
  refine Tot.cp (fun h2 => ?_) (fun h2 => .so (.so fun h => by cases h))
  apply Tot.bi
  rw [w64_eq] at h2
  have e : w64 (i + t.size) = i + t.size := by rw [w64_eq]; omega
  refine Tot.cut (by rw [e]; omega) (.so (.so fun _ => by omega))
theorem t107 (s : ByteArray) (i : Int) (h : s.size ≤ big) (h0 : 0 ≤ i) (h1 : i < s.size) : Tot (pf107 s i) fun r => r ≤ s.size := by
  unfold pf107
  have hb : (s.size : Int) ≤ 1000000000000 := by simp only [big] at h; omega
  have e1 : w64 (i + 1) = i + 1 := by rw [w64_eq]; omega
  have e2 : w64 (i + 2) = i + 2 := by rw [w64_eq]; omega
  rw [e1, e2]
  have hbx := Tot.bx (Φ := fun _ => True) (s := s) (m := i) ⟨h0, h1⟩ trivial
  refine Tot.by' (Ξ := fun _ => True) ?_ fun c _ => Tot.cd (fun _ => ?_) (fun _ => ?_)
  · refine Tot.by' hbx fun _ _ => Tot.cd (fun _ => .so trivial) (fun _ => Tot.by' hbx fun _ _ => .so trivial)
  · refine Tot.by' (Ξ := LR (fun _ => True) (fun r => r ≤ s.size)) ?_ fun x hx => ?_
    · refine Tot.count (fun j => j) (s.size + 1) (fun j => 0 ≤ j) (by show (0:Int) ≤ i + 1; omega) (by show (s.size : Int) + 1 - (i + 1) < _; omega) fun j hj => ?_
      refine Tot.by' (Ξ := fun c => c = true → j < s.size) ?_ fun c hc => Tot.cd (fun h2 => ?_) (fun _ => .so trivial)
      · refine Tot.cp (fun h2 => ?_) (fun _ => .so fun h => by cases h)
        exact .by' (Ξ := fun _ => True) (Tot.bx ⟨hj, h2⟩ trivial) fun _ _ => .so fun _ => h2
      · have hj2 := hc h2
        have hbj := Tot.bx (Φ := fun _ => True) (s := s) (m := j) ⟨hj, hj2⟩ trivial
        have e3 : w64 (j + 1) = j + 1 := by rw [w64_eq]; omega
        have e4 : w64 (j + 1 + 1) = j + 1 + 1 := by rw [w64_eq]; omega
        rw [e3, e4]
        refine .by' hbj fun _ _ => .by' hbx fun _ _ => Tot.cd (fun _ => .so ?_) (fun _ => .by' hbj fun _ _ => Tot.cd (fun _ => ?_) (fun _ => .so ?_))
        · show j + 1 ≤ s.size; omega
        · refine Tot.by' (Ξ := fun _ => True) ?_ fun c _ => Tot.cd (fun _ => .so ?_) (fun _ => .so ?_)
          · refine Tot.cp (fun h3 => ?_) (fun _ => .so trivial)
            exact .by' (Ξ := fun _ => True) (Tot.bx ⟨by omega, h3⟩ trivial) fun _ _ => .so trivial
          · show (-1 : Int) ≤ s.size; omega
          · show (0 : Int) ≤ j + 1 + 1 ∧ j < j + 1 + 1 ∧ j + 1 + 1 ≤ s.size + 1; omega
        · show (0 : Int) ≤ j + 1 ∧ j < j + 1 ∧ j + 1 ≤ s.size + 1; omega
    · rcases x with _ | r
      · exact .so (by show (-1 : Int) ≤ s.size; omega)
      · exact .so hx
  · refine .by' hbx fun _ _ => Tot.cd (fun _ => ?_) (fun _ => ?_)
    · refine Tot.by' (Ξ := LR (fun _ => True) (fun r => r ≤ s.size)) ?_ fun x hx => ?_
      · refine Tot.count (fun j => j) (s.size + 1) (fun j => 0 ≤ j) (by show (0:Int) ≤ i + 1; omega) (by show (s.size : Int) + 1 - (i + 1) < _; omega) fun j hj => ?_
        refine Tot.cp (fun h2 => ?_) (fun _ => .so trivial)
        have e3 : w64 (j + 1) = j + 1 := by rw [w64_eq]; omega
        rw [e3]
        refine .by' (Ξ := fun _ => True) (Tot.bx ⟨hj, h2⟩ trivial) fun _ _ => Tot.cd (fun _ => .so ?_) (fun _ => .so ?_)
        · show j + 1 ≤ s.size; omega
        · show (0 : Int) ≤ j + 1 ∧ j < j + 1 ∧ j + 1 ≤ s.size + 1; omega
      · rcases x with _ | r
        · exact .so (by show (-1 : Int) ≤ s.size; omega)
        · exact .so hx
    · refine .by' (t116 s i _ h h0 (by simp only [big]; omega) (by decide)) fun c _ => Tot.cd (fun _ => ?_) (fun _ => ?_)
      · refine Tot.by' (Ξ := fun r => r ≤ s.size) ?_ fun x hx => .so hx
        refine Tot.count (fun j => j) s.size (fun j => 0 ≤ j ∧ j ≤ s.size) ⟨h0, by omega⟩ (by show (s.size : Int) - i < _; omega) fun j hj => ?_
        refine Tot.by' (Ξ := fun c => c = true → j < s.size) ?_ fun c hc => Tot.cd (fun h2 => ?_) (fun _ => .so hj.2)
        · refine Tot.cp (fun h2 => ?_) (fun _ => .so fun h => by cases h)
          exact .by' (Ξ := fun _ => True) (Tot.bx ⟨hj.1, h2⟩ trivial) fun _ _ => .so fun _ => h2
        · have := hc h2
          have e3 : w64 (j + 1) = j + 1 := by rw [w64_eq]; omega
          rw [e3]
          exact .so (by show ((0 : Int) ≤ j + 1 ∧ j + 1 ≤ s.size) ∧ j < j + 1 ∧ j + 1 ≤ s.size; omega)
      · refine .by' (t116 s i _ h h0 (by simp only [big]; omega) (by decide)) fun c hc => Tot.cd (fun hc1 => ?_) (fun _ => .so (by omega))
        refine Tot.by' (Ξ := LR (fun _ => True) (fun r => r ≤ s.size)) ?_ fun x hx => ?_
        · refine Tot.count (fun j => j) (s.size + 1) (fun j => 0 ≤ j) (by show (0:Int) ≤ i + 2; omega) (by show (s.size : Int) + 1 - (i + 2) < _; omega) fun j hj => ?_
          refine Tot.cp (fun h2 => ?_) (fun _ => .so trivial)
          have e3 : w64 (j + 1) = j + 1 := by rw [w64_eq]; omega
          have e4 : w64 (j + 2) = j + 2 := by rw [w64_eq]; omega
          rw [e3, e4]
          refine .by' (t116 s j _ h hj (by simp only [big]; omega) (by decide)) fun c hc => Tot.cd (fun hc2 => .so ?_) (fun _ => .so ?_)
          · have := hc hc2
            have e5 : ({ data := #[42, 47] } : ByteArray).size = 2 := rfl
            rw [e5] at this
            show j + 2 ≤ s.size; omega
          · show (0 : Int) ≤ j + 1 ∧ j < j + 1 ∧ j + 1 ≤ s.size + 1; omega
        · rcases x with _ | r
          · exact .so (by show (-1 : Int) ≤ s.size; omega)
          · exact .so hx
theorem t93 (s : ByteArray) (h : s.size ≤ big) : Tot (pf93 s 0) fun _ => True := by
  unfold pf93
  have hb : (s.size : Int) ≤ 1000000000000 := by simp only [big] at h; omega
  refine Tot.by' (Ξ := fun _ => True) ?_ fun c _ => Tot.cd (fun _ => .so trivial) (fun _ => ?_)
  · refine Tot.cp (fun h => .so trivial) (fun h0 => Tot.cp (fun h => .so trivial) (fun h2 => ?_))
    exact .by' (Ξ := fun _ => True) (Tot.bx (by omega) trivial) fun _ _ => .so trivial
  · refine Tot.by' (Ξ := fun _ => True) ?_ fun x _ => by rcases x with _ | r <;> exact .so trivial
    refine Tot.count (fun j => j.2) s.size (fun j => 0 ≤ j.2 ∧ j.2 ≤ s.size) ⟨by show (0:Int) ≤ 0; omega, by show (0:Int) ≤ s.size; omega⟩ (by show (s.size : Int) - 0 < _; omega) fun j hj => ?_
    refine Tot.cp (fun h2 => ?_) (fun _ => .so trivial)
    refine .by' (t107 s j.2 h hj.1 h2) fun n hn => Tot.cp (fun _ => .so trivial) (fun h3 => Tot.cp (fun h4 => .so ?_) (fun h4 => ?_))
    · show ((0 : Int) ≤ n ∧ n ≤ s.size) ∧ j.2 < n ∧ n ≤ s.size; omega
    · have hbx := Tot.bx (Φ := fun _ => True) (s := s) (m := j.2) ⟨hj.1, h2⟩ trivial
      have e3 : w64 (j.2 + 1) = j.2 + 1 := by rw [w64_eq]; omega
      rw [e3]
      refine .by' hbx fun _ _ => .by' (Ξ := fun _ => True) (Tot.cd (fun _ => .so trivial) (fun _ => .so trivial)) fun _ _ => .by' hbx fun _ _ => .by' (Ξ := fun _ => True) (Tot.cd (fun _ => .so trivial) (fun _ => .so trivial)) fun _ _ => Tot.cd (fun _ => .so trivial) (fun _ => .so ?_)
      show ((0 : Int) ≤ j.2 + 1 ∧ j.2 + 1 ≤ s.size) ∧ j.2 < j.2 + 1 ∧ j.2 + 1 ≤ s.size; omega
end Go.Proofs
namespace Go.Proofs
open Go Go.Own
set_option maxRecDepth 100000
set_option linter.unusedVariables false
def LitOk (x : Sym) : Prop := x.Lit = true → x.Name.size = 1
structure DeclB (d : Decl) : Prop where
  tag : d.Tag.size ≤ big
  n : d.Syms.length ≤ 1000
  syms : ∀ x ∈ d.Syms, x.Name.size ≤ big
structure AltB (a : Alt) : Prop where
  n : a.Parts.length ≤ 1000
  parts : ∀ p ∈ a.Parts, p.Sym.Name.size ≤ big ∧ p.Code.size ≤ big
  prec : a.Prec.Name.size ≤ big
structure RuleB (r : Rule) : Prop where
  left : r.Left.size ≤ big
  n : r.Alts.length ≤ 1000
  alts : ∀ a ∈ r.Alts, AltB a
structure SrcB (s : Source) : Prop where
  pro : s.Pro.size ≤ big
  dn : s.Decls.length ≤ 1000
  decls : ∀ d ∈ s.Decls, DeclB d
  rn : s.Rules.length ≤ 1000
  rules : ∀ r ∈ s.Rules, RuleB r
theorem t90 (x : Sym) (a b : Bool) (h : x.Name.size ≤ big) : Tot (pf90 x a b) fun r => r = true → LitOk x := by
  unfold pf90
  refine Tot.cd (fun hl => ?_) (fun hl => ?_)
  · refine Tot.by' (Ξ := fun c => c = false → x.Name.size = 1) ?_ fun c hc => Tot.cd (fun _ => .so fun h => by cases h) (fun h2 => ?_)
    · refine Tot.cd (fun _ => .so fun h => by cases h) (fun _ => Tot.cn (fun _ => .so fun h => by cases h) (fun h1 => .so fun _ => by omega))
    · have h1 := hc h2
      refine .by' (Ξ := fun _ => True) (Tot.bx (by omega) trivial) fun _ _ => .by' (t55 _) fun _ _ => .so fun _ _ => h1
  · have hok : LitOk x := fun h => by rw [hl] at h; cases h
    refine Tot.by' (Ξ := fun _ => True) ?_ fun c hc => .so fun _ => hok
    refine .by' (t79 _ h) fun c _ => ?_
    repeat' first | refine Tot.cd (fun _ => ?_) (fun _ => ?_) | exact Tot.so trivial
theorem t78 (d : Decl) (h : DeclB d) : Tot (pf78 d) fun r => r = true → ∀ x ∈ d.Syms, LitOk x := by
  unfold pf78
  refine Tot.by' (Ξ := fun _ => True) ?_ fun c _ => Tot.cd (fun _ => .so fun h => by cases h) (fun _ => ?_)
  · have ht := (t79 _ h.tag).use (Φ := fun _ => True) fun _ _ => trivial
    repeat' first | refine Tot.cd (fun _ => ?_) (fun _ => ?_) | exact Tot.so trivial | refine .by' ht fun _ _ => ?_
  · refine Tot.by' (Tot.scan d.Syms (fun x => LitOk x) (fun r => r = false) (by have := h.n; omega) (fun s y h0 h1 hi hm => ?_) (fun s hs => by simp [hs])) fun x hx => ?_
    · refine Tot.cp (fun _ => ?_) (fun h => absurd h1 h)
      rw [hi]
      refine Tot.sm ?_
      refine .by' (t90 _ _ _ (h.syms _ hm)) fun c hc => Tot.cd (fun _ => .so rfl) (fun h2 => .so ⟨?_, hc (by simpa using h2)⟩)
      have := h.n
      rw [w64_eq]; omega
    · rcases x with _ | r
      · exact .so fun _ => hx
      · exact .so fun h => by have : r = false := hx; rw [this] at h; cases h
theorem t80 (a : Alt) (h : AltB a) : Tot (pf80 a) fun r => r = true → (∀ p ∈ a.Parts, LitOk p.Sym) ∧ LitOk a.Prec := by
  unfold pf80
  refine Tot.by' (Tot.scan a.Parts (fun p => LitOk p.Sym) (fun r => r = false) (by have := h.n; omega) (fun s y h0 h1 hi hm => ?_) (fun s hs => by simp [hs])) fun x hx => ?_
  · refine Tot.cp (fun _ => ?_) (fun h => absurd h1 h)
    rw [hi]
    refine Tot.sm ?_
    have hp := h.parts _ hm
    have t1 := t90 y.Sym false true hp.1
    have t2 := t92 y.Sym
    have t3 := t93 y.Code hp.2
    have hw : w64 (s + 1) = s + 1 := by have := h.n; rw [w64_eq]; omega
    rw [hw]
    have n92 : (y.Sym.Name = { data := #[] } ∧ y.Sym.Lit = false) → LitOk y.Sym := fun h hl => by rw [h.2] at hl; cases hl
    refine Tot.by' (Ξ := fun c => c = false → LitOk y.Sym) ?_ fun c hc => Tot.cd (fun _ => .so rfl) (fun h2 => .so ⟨rfl, hc h2⟩)
    refine Tot.cp (fun _ => ?_) (fun hne => ?_)
    · refine .by' t1 fun c hc => Tot.cd (fun _ => .so fun h => by cases h) (fun h2 => ?_)
      have hok := hc (by simpa using h2)
      refine Tot.cd (fun _ => ?_) (fun _ => .so fun _ => hok)
      refine .by' t2 fun c _ => Tot.cd (fun _ => .so fun _ => hok) (fun _ => ?_)
      exact .by' t3 fun _ _ => .so fun _ => hok
    · refine Tot.cn (fun _ => ?_) (fun h => .so fun _ => ?_)
      · refine .by' t2 fun c hc => Tot.cd (fun _ => .so fun h => by cases h) (fun h2 => ?_)
        have hok := n92 (hc (by simpa using h2))
        exact .by' t3 fun _ _ => .so fun _ => hok
      · exact absurd h hne
  · rcases x with _ | r
    · have hx : ∀ p ∈ a.Parts, LitOk p.Sym := hx
      refine Tot.by' (Ξ := fun c => c = true → LitOk a.Prec) ?_ fun c hc => .so fun h => ⟨hx, hc h⟩
      refine .by' (t92 _) fun c hc => Tot.cd (fun h2 => .so fun _ => ?_) (fun _ => .by' (t90 _ _ _ h.prec) fun c hc => .so hc)
      intro hl; rw [(hc h2).2] at hl; cases hl
    · exact .so fun h => by have : r = false := hx; rw [this] at h; cases h
structure AltOk (a : Alt) : Prop where
  parts : ∀ p ∈ a.Parts, LitOk p.Sym
  prec : LitOk a.Prec
structure SrcOk (s : Source) : Prop where
  decls : ∀ d ∈ s.Decls, ∀ x ∈ d.Syms, LitOk x
  rules : ∀ r ∈ s.Rules, ∀ a ∈ r.Alts, AltOk a
  pos : 0 < s.Rules.length
theorem t63 (s : Source) (h : SrcB s) : Tot (pf63 s) fun r => r = true → SrcOk s := by
  unfold pf63
  refine Tot.by' (Ξ := LR (fun _ => True) (fun r => r = false)) ?_ fun x hx => ?_
  · have hp : (s.Pro.size : Int) ≤ 1000000000000 := by have := h.pro; simp only [big] at this; omega
    refine Tot.count (fun j => j) s.Pro.size (fun j => 0 ≤ j ∧ j ≤ s.Pro.size) ⟨by omega, by omega⟩ (by show (s.Pro.size : Int) - 0 < _; omega) fun j hj => ?_
    have e1 : w64 (j + 1) = j + 1 := by rw [w64_eq]; omega
    have e2 : w64 (j + 2) = j + 2 := by rw [w64_eq]; omega
    rw [e1, e2]
    refine Tot.cp (fun h2 => ?_) (fun _ => .so trivial)
    refine .by' (Ξ := fun _ => True) (Tot.cut (by omega) trivial) fun _ _ => Tot.cd (fun _ => .so rfl) (fun _ => .so ?_)
    show ((0 : Int) ≤ j + 1 ∧ j + 1 ≤ s.Pro.size) ∧ j < j + 1 ∧ j + 1 ≤ s.Pro.size; omega
  · rcases x with _ | r
    · refine Tot.by' (Tot.scan s.Decls (fun d => ∀ x ∈ d.Syms, LitOk x) (fun r => r = false) (by have := h.dn; omega) (fun i y h0 h1 hi hm => ?_) (fun s hs => by simp [hs])) fun x hx => ?_
      · refine Tot.cp (fun _ => ?_) (fun h => absurd h1 h)
        rw [hi]
        refine Tot.sm ?_
        refine .by' (t78 _ (h.decls _ hm)) fun c hc => Tot.cd (fun _ => .so rfl) (fun h2 => .so ⟨?_, hc (by simpa using h2)⟩)
        have := h.dn
        rw [w64_eq]; omega
      · rcases x with _ | r
        · have hx : ∀ d ∈ s.Decls, ∀ x ∈ d.Syms, LitOk x := hx
          refine Tot.by' (Tot.scan s.Rules (fun r => ∀ a ∈ r.Alts, AltOk a) (fun r => r = false) (by have := h.rn; omega) (fun i y h0 h1 hi hm => ?_) (fun s hs => by simp [hs])) fun x hx2 => ?_
          · refine Tot.cp (fun _ => ?_) (fun h => absurd h1 h)
            rw [hi]
            refine Tot.sm ?_
            have hr := h.rules _ hm
            have hw : w64 (i + 1) = i + 1 := by have := h.rn; rw [w64_eq]; omega
            rw [hw]
            refine .by' (Ξ := fun _ => True) (.by' (t79 _ hr.left) fun c _ => Tot.cd (fun _ => .so trivial) (fun _ => .so trivial)) fun c _ => Tot.cd (fun _ => .so rfl) (fun _ => ?_)
            refine Tot.by' (Tot.scan y.Alts AltOk (fun r => r = false) (by have := hr.n; omega) (fun k a h0 h1 hi hm => ?_) (fun s hs => by simp [hs])) fun x hx3 => ?_
            · refine Tot.cp (fun _ => ?_) (fun h => absurd h1 h)
              rw [hi]
              refine Tot.sm ?_
              refine .by' (t80 _ (hr.alts _ hm)) fun c hc => Tot.cd (fun _ => .so rfl) (fun h2 => .so ⟨?_, ⟨(hc (by simpa using h2)).1, (hc (by simpa using h2)).2⟩⟩)
              have := hr.n
              rw [w64_eq]; omega
            · rcases x with _ | r
              · exact .so ⟨rfl, hx3⟩
              · exact .so hx3
          · rcases x with _ | r
            · exact .so fun h => ⟨hx, hx2, by have := of_decide_eq_true h; omega⟩
            · exact .so fun h => by have : r = false := hx2; rw [this] at h; cases h
        · exact .so fun h => by have : r = false := hx; rw [this] at h; cases h
    · exact .so fun h => by have : r = false := hx; rw [this] at h; cases h
end Go.Proofs
namespace Go.Proofs
open Go Go.Own
set_option maxRecDepth 100000
set_option linter.unusedVariables false
abbrev Mk := yuccaref9_maker
structure Same (m m' : Mk) : Prop where
  g : m'.f_g = m.f_g
  gv : m'.f_given = m.f_given
  ty : m'.f_types = m.f_types
  lf : m'.f_lefts = m.f_lefts
  lv : m'.f_level = m.f_level
  inn : m'.f_inner = m.f_inner
theorem t65 (m : Mk) (a : Int) (n : ByteArray) : Tot (pf65 m a n) fun m' => Same m m' ∧ m'.f_e ≠ 0 := by
  unfold pf65
  apply Tot.bi
  refine Tot.cp (fun _ => .so (.so ⟨⟨rfl, rfl, rfl, rfl, rfl, rfl⟩, ?_⟩)) (fun h => .so (.so ⟨⟨rfl, rfl, rfl, rfl, rfl, rfl⟩, h⟩))
  show (3 : Int) ≠ 0; decide
theorem t69 (m : Mk) (n : ByteArray) (h : m.f_types.length ≤ big) : Tot (pf69 m n) fun r => r = -1 ∨ (0 ≤ r ∧ r < m.f_types.length) := by
  unfold pf69
  simp only [big] at h
  refine Tot.by' (Tot.scan m.f_types (fun _ => True) (fun r : Int => 0 ≤ r ∧ r < m.f_types.length) (by omega) (fun s y h0 h1 hi hm => ?_) (fun s hs => by simp [hs])) fun x hx => ?_
  · refine Tot.cp (fun _ => ?_) (fun h => absurd h1 h)
    rw [hi]
    refine Tot.sm ?_
    refine Tot.cd (fun _ => .so ⟨h0, h1⟩) (fun _ => .so ⟨?_, trivial⟩)
    rw [w64_eq]; omega
  · rcases x with _ | r
    · exact .so (.inl rfl)
    · exact .so (.inr hx)
theorem t67 (m : Mk) (n : ByteArray) (h : m.f_lefts.length ≤ big) : Tot (pf67 m n) fun r => (r = -1 ∧ ∀ x ∈ m.f_lefts, x ≠ n) ∨ (0 ≤ r ∧ r < m.f_lefts.length ∧ m.f_lefts[r.toNat]? = some n) := by
  unfold pf67
  simp only [big] at h
  refine Tot.by' (Tot.scan m.f_lefts (fun x => x ≠ n) (fun r : Int => 0 ≤ r ∧ r < m.f_lefts.length ∧ m.f_lefts[r.toNat]? = some n) (by omega) (fun s y h0 h1 hi hm => ?_) (fun s hs => by simp [hs])) fun x hx => ?_
  · refine Tot.cp (fun _ => ?_) (fun h => absurd h1 h)
    rw [hi]
    refine Tot.sm ?_
    refine Tot.cp (fun e => .so ⟨h0, h1, by rw [← e]; exact (idx_spec hi).2.2⟩) (fun e => .so ⟨?_, e⟩)
    rw [w64_eq]; omega
  · rcases x with _ | r
    · exact .so (.inl ⟨rfl, hx⟩)
    · exact .so (.inr hx)
theorem t66 (m : Mk) (x : Sym) (h : m.f_g.Toks.length ≤ big) : Tot (pf66 m x) fun r => r = -1 ∨ (1 ≤ r ∧ r < m.f_g.Toks.length) := by
  unfold pf66
  simp only [big] at h
  refine Tot.by' (Ξ := LR (fun _ => True) (fun r => 1 ≤ r ∧ r < m.f_g.Toks.length)) ?_ fun x hx => ?_
  · refine Tot.count (fun j => j) m.f_g.Toks.length (fun j => 1 ≤ j) (by omega) (by show (m.f_g.Toks.length : Int) - 1 < _; omega) fun j hj => ?_
    refine Tot.cp (fun h2 => ?_) (fun _ => .so trivial)
    have e : w64 (j + 1) = j + 1 := by rw [w64_eq]; omega
    rw [e]
    refine .by' (Ξ := fun _ => True) ?_ fun c _ => Tot.cd (fun _ => .so ⟨hj, h2⟩) (fun _ => .so ?_)
    · refine .by' (Ξ := fun _ => True) (Tot.ix (by omega) h2 fun _ _ _ => trivial) fun _ _ => Tot.cd (fun _ => ?_) (fun _ => .so trivial)
      exact .by' (Ξ := fun _ => True) (Tot.ix (by omega) h2 fun _ _ _ => trivial) fun _ _ => Tot.cd (fun _ => .so trivial) (fun _ => .so trivial)
    · show (1 : Int) ≤ j + 1 ∧ j < j + 1 ∧ j + 1 ≤ m.f_g.Toks.length; omega
  · rcases x with _ | r
    · exact .so (.inl rfl)
    · exact .so (.inr hx)
theorem t82 (m : Mk) (n : Int) (h : m.f_g.Toks.length ≤ big) : Tot (pf82 m n) fun _ => True := by
  unfold pf82
  simp only [big] at h
  refine Tot.by' (Ξ := fun _ => True) ?_ fun x hx => ?_
  · refine Tot.count (fun j => j) m.f_g.Toks.length (fun j => 1 ≤ j) (by decide) (by show (m.f_g.Toks.length : Int) - 3 < _; omega) fun j hj => ?_
    refine Tot.cp (fun h2 => ?_) (fun _ => .so trivial)
    have e : w64 (j + 1) = j + 1 := by rw [w64_eq]; omega
    rw [e]
    refine .by' (Ξ := fun _ => True) (Tot.ix (by omega) h2 fun _ _ _ => trivial) fun c _ => Tot.cd (fun _ => .so trivial) (fun _ => .so ?_)
    show (1 : Int) ≤ j + 1 ∧ j < j + 1 ∧ j + 1 ≤ m.f_g.Toks.length; omega
  · rcases x with _ | r <;> exact .so trivial
structure Grow (m m' : Mk) (k : Nat) : Prop where
  gv : m'.f_given.length = m'.f_g.Toks.length
  lo : m.f_g.Toks.length ≤ m'.f_g.Toks.length
  hi : m'.f_g.Toks.length ≤ m.f_g.Toks.length + k
  ty : m'.f_types.length ≤ m.f_types.length + k
  lf : m'.f_lefts = m.f_lefts
  pr : m'.f_g.Prods = m.f_g.Prods
  inn : m'.f_inner = m.f_inner
  lvl : m'.f_level = m.f_level
  lv : 0 ≤ m.f_level → (∀ t ∈ m.f_g.Toks, 0 ≤ t.Level) → ∀ t ∈ m'.f_g.Toks, 0 ≤ t.Level
theorem Same.grow {m m' : Mk} (h : Same m m') (hg : m.f_given.length = m.f_g.Toks.length) (k : Nat) : Grow m m' k := by
  obtain ⟨h1, h2, h3, h4, h5, h6⟩ := h
  exact ⟨by rw [h1, h2]; exact hg, by rw [h1]; omega, by rw [h1]; omega, by rw [h3]; omega, h4, by rw [h1], h6, h5, by rw [h1]; exact fun _ h => h⟩
theorem t81 (m : Mk) (x : Sym) (hg : m.f_given.length = m.f_g.Toks.length) (h : m.f_g.Toks.length ≤ 100000000000) (hx : LitOk x) :
    Tot (pf81 m x) fun r => Grow m r.2 1 ∧ 0 ≤ r.1 ∧ r.1 < r.2.f_g.Toks.length := by
  unfold pf81
  refine .by' (t66 m x (by simp only [big]; omega)) fun t ht => Tot.cp (fun h0 => .so ⟨⟨hg, Nat.le_refl _, Nat.le_succ _, Nat.le_succ _, rfl, rfl, rfl, rfl, fun _ h => h⟩, h0, ?_⟩) (fun _ => ?_)
  · rcases ht with rfl | ht
    · exact absurd h0 (by decide)
    · exact ht.2
  · refine Tot.by' (Ξ := fun j => Same m j.1) ?_ fun j hj => ?_
    · refine Tot.cd (fun hl => ?_) (fun _ => .so ⟨rfl, rfl, rfl, rfl, rfl, rfl⟩)
      have := hx hl
      refine .by' (Ξ := fun _ => True) (Tot.bx (by omega) trivial) fun b _ => .by' (t82 m _ (by simp only [big]; omega)) fun o _ => ?_
      refine Tot.by' (Ξ := fun j => Same m j) ?_ fun j hj => .so hj
      exact Tot.cd (fun _ => .by' (t65 m _ _) fun m' hm => .so hm.1) (fun _ => .so ⟨rfl, rfl, rfl, rfl, rfl, rfl⟩)
    · obtain ⟨h1, h2, h3, h4, h5, h6⟩ := hj
      have hlt : j.1.f_g.Toks.length = m.f_g.Toks.length := by rw [h1]
      have hlg : j.1.f_given.length = m.f_given.length := by rw [h2]
      refine .by' (Ξ := fun _ => True) (Tot.ap (by rw [hlt]; simp [lim]; omega) trivial) fun _ _ => .by' (Ξ := fun _ => True) (Tot.ap (by rw [hlg]; simp [lim]; omega) trivial) fun _ _ => .so ?_
      refine ⟨⟨?_, ?_, ?_, ?_, h4, by show j.1.f_g.Prods = _; rw [h1], h6, h5, ?_⟩, ?_, ?_⟩
      · show (j.1.f_given ++ [x.Lit]).length = (j.1.f_g.Toks ++ [_]).length
        simp [hlt, hlg, hg]
      · show _ ≤ (j.1.f_g.Toks ++ [_]).length
        simp [hlt]
      · show (j.1.f_g.Toks ++ [_]).length ≤ _
        simp [hlt]
      · show j.1.f_types.length ≤ _
        rw [h3]; omega
      · intro _ hl t ht
        rcases List.mem_append.1 ht with ht | ht
        · rw [h1] at ht; exact hl t ht
        · rw [List.mem_singleton.1 ht]; exact Int.le_refl 0
      · show 0 ≤ w64 (((j.1.f_g.Toks ++ [_]).length : Int) - 1)
        rw [w64_eq]; simp [hlt]; omega
      · show w64 (((j.1.f_g.Toks ++ [_]).length : Int) - 1) < ((j.1.f_g.Toks ++ [_]).length : Int)
        rw [w64_eq]; simp [hlt]; omega
structure Tk (m m' : Mk) : Prop where
  tk : m'.f_g.Toks.length = m.f_g.Toks.length
  gv : m'.f_given.length = m.f_given.length
  ty : m'.f_types = m.f_types
  lf : m'.f_lefts = m.f_lefts
  pr : m'.f_g.Prods = m.f_g.Prods
  inn : m'.f_inner = m.f_inner
  lvl : m'.f_level = m.f_level
  lv : 0 ≤ m.f_level → (∀ t ∈ m.f_g.Toks, 0 ≤ t.Level) → ∀ t ∈ m'.f_g.Toks, 0 ≤ t.Level
theorem Tk.refl (m : Mk) : Tk m m := ⟨rfl, rfl, rfl, rfl, rfl, rfl, rfl, fun _ h => h⟩
theorem Tk.trans {m m' m'' : Mk} (h : Tk m m') (h' : Tk m' m'') : Tk m m'' := ⟨h'.tk.trans h.tk, h'.gv.trans h.gv, h'.ty.trans h.ty, h'.lf.trans h.lf, h'.pr.trans h.pr, h'.inn.trans h.inn, h'.lvl.trans h.lvl, fun h0 hl => h'.lv (by rw [h.lvl]; exact h0) (h.lv h0 hl)⟩
theorem Same.tk {m m' : Mk} (h : Same m m') : Tk m m' := ⟨by rw [h.g], by rw [h.gv], h.ty, h.lf, by rw [h.g], h.inn, h.lv, by rw [h.g]; exact fun _ h => h⟩
theorem Grow.tk {m m' m'' : Mk} {k : Nat} (h : Grow m m' k) (h' : Tk m' m'') : Grow m m'' k :=
  ⟨by rw [h'.gv, h'.tk]; exact h.gv, by rw [h'.tk]; exact h.lo, by rw [h'.tk]; exact h.hi, by rw [h'.ty]; exact h.ty, h'.lf.trans h.lf, h'.pr.trans h.pr, h'.inn.trans h.inn, h'.lvl.trans h.lvl, fun h0 hl => h'.lv (by rw [h.lvl]; exact h0) (h.lv h0 hl)⟩
theorem mem_set2 {α : Type} {l : List α} {i : Nat} {x y : α} (h : y ∈ l.set i x) : y ∈ l ∨ y = x := List.mem_or_eq_of_mem_set h
theorem t64 (m : Mk) (d : Decl) (x : Sym) (hg : m.f_given.length = m.f_g.Toks.length) (h : m.f_g.Toks.length ≤ 100000000000) (ht : m.f_types.length ≤ 100000000000) (hx : LitOk x) :
    Tot (pf64 m d x) fun m' => Grow m m' 1 := by
  unfold pf64
  refine Tot.cd (fun _ => ?_) (fun _ => ?_)
  · refine .by' (t69 m x.Name (by simp only [big]; omega)) fun k hk => Tot.by' (Ξ := fun m' => Grow m m' 1) ?_ fun m' hm => .so hm
    refine Tot.cp (fun _ => ?_) (fun h0 => ?_)
    · refine .by' (Ξ := fun _ => True) (Tot.ap (by simp [lim]; omega) trivial) fun _ _ => .so ⟨hg, Nat.le_refl _, Nat.le_succ _, ?_, rfl, rfl, rfl, rfl, fun _ h => h⟩
      show (m.f_types ++ [_]).length ≤ _
      simp
    · refine .by' (Ξ := fun _ => True) (Tot.ix (by omega) (by omega) fun _ _ _ => trivial) fun _ _ => Tot.by' (Ξ := fun m' => Grow m m' 1) ?_ fun m' hm => .so hm
      exact Tot.cd (fun _ => .by' (t65 m _ _) fun m' hm => .so (hm.1.grow hg 1)) (fun _ => .so ⟨hg, Nat.le_refl _, Nat.le_succ _, Nat.le_succ _, rfl, rfl, rfl, rfl, fun _ h => h⟩)
  · refine .by' (t81 m x hg h hx) fun r ⟨hr, h0, h1⟩ => ?_
    have ix : ∀ {m' : Mk}, Tk r.2 m' → Tot (idx m'.f_g.Toks r.1) fun y => y ∈ m'.f_g.Toks := fun hm => Tot.ix h0 (by rw [hm.tk]; exact h1) fun _ _ h => h
    have ixg : ∀ {m' : Mk}, Tk r.2 m' → Tot (idx m'.f_given r.1) fun _ => True := fun hm => Tot.ix h0 (by rw [hm.gv, hr.gv]; exact h1) fun _ _ _ => trivial
    refine .by' (ix (.refl _)) fun y _ => ?_
    refine Tot.by' (Ξ := fun m' => Tk r.2 m') ?_ fun j12 h12 => ?_
    · refine Tot.cd (fun _ => ?_) (fun _ => .so (.refl _))
      refine Tot.by' (Ξ := fun m' => Tk r.2 m') ?_ fun j14 h14 => ?_
      · exact Tot.cd (fun _ => .by' (t65 r.2 _ _) fun m' hm => .so ⟨rfl, hm.1.tk.gv, hm.1.tk.ty, hm.1.tk.lf, hm.1.tk.pr, hm.1.tk.inn, hm.1.tk.lvl, fun _ h => h⟩) (fun _ => .so (.refl _))
      · refine .by' (ix h14) fun _ _ => .so (h14.trans ⟨?_, rfl, rfl, rfl, rfl, rfl, rfl, fun hl ht t hh => ?_⟩)
        · show ((j14.f_g.Toks.set _ _).set _ _).length = _
          simp
        · rcases mem_set2 hh with hh | rfl
          · rcases mem_set2 hh with hh | rfl
            · exact ht t hh
            · exact hl
          · exact hl
    · refine .by' (ix h12) fun _ _ => ?_
      refine Tot.by' (Ξ := fun m' => Tk r.2 m') ?_ fun j19 h19 => ?_
      · refine Tot.cd (fun _ => ?_) (fun _ => .so h12)
        refine .by' (Ξ := fun _ => True) ?_ fun c _ => ?_
        · refine Tot.cd (fun _ => .so trivial) (fun _ => .by' (ixg h12) fun _ _ => Tot.cd (fun _ => .so trivial) (fun _ => .by' (t82 j12 _ ?_) fun _ _ => .so trivial))
          have := h12.tk; have := hr.hi; simp only [big]; omega
        · refine Tot.by' (Ξ := fun m' => Tk r.2 m') ?_ fun j26 h26 => ?_
          · exact Tot.cd (fun _ => .by' (t65 j12 _ _) fun m' hm => .so (h12.trans ⟨rfl, hm.1.tk.gv, hm.1.tk.ty, hm.1.tk.lf, hm.1.tk.pr, hm.1.tk.inn, hm.1.tk.lvl, fun _ h => h⟩)) (fun _ => .so h12)
          · refine .by' (ix h26) fun y hy => .by' (ixg h26) fun _ _ => .so (h26.trans ⟨?_, ?_, rfl, rfl, rfl, rfl, rfl, fun hl ht t hh => ?_⟩)
            · show (j26.f_g.Toks.set _ _).length = _; simp
            · show (j26.f_given.set _ _).length = _; simp
            · rcases mem_set2 hh with hh | rfl
              · exact ht t hh
              · exact (ht y hy : 0 ≤ y.Level)
      · refine .by' (ix h19) fun _ _ => ?_
        refine Tot.by' (Ξ := fun m' => Tk r.2 m') ?_ fun j32 h32 => .so (hr.tk h32)
        refine Tot.cd (fun _ => ?_) (fun _ => .so h19)
        refine .by' (Ξ := fun _ => True) (Tot.cd (fun _ => .so trivial) (fun _ => .so trivial)) fun c _ => ?_
        refine Tot.by' (Ξ := fun m' => Tk r.2 m') ?_ fun j36 h36 => ?_
        · exact Tot.cd (fun _ => .by' (t65 j19 _ _) fun m' hm => .so (h19.trans ⟨rfl, hm.1.tk.gv, hm.1.tk.ty, hm.1.tk.lf, hm.1.tk.pr, hm.1.tk.inn, hm.1.tk.lvl, fun _ h => h⟩)) (fun _ => .so h19)
        · refine .by' (ix h36) fun y hy => .so (h36.trans ⟨?_, rfl, rfl, rfl, rfl, rfl, rfl, fun hl ht t hh => ?_⟩)
          · show (j36.f_g.Toks.set _ _).length = _; simp
          · rcases mem_set2 hh with hh | rfl
            · exact ht t hh
            · exact (ht y hy : 0 ≤ y.Level)
def SyOk (T : Nat) (N : Int) (s : Int) : Prop := (0 ≤ s ∧ s < T) ∨ (1000 ≤ s ∧ s ≤ 1000 + N)
theorem SyOk.mono {T T' : Nat} {N N' s : Int} (h : SyOk T N s) (hT : T ≤ T') (hN : N ≤ N') : SyOk T' N' s := by
  rcases h with h | h
  · exact .inl (by omega)
  · exact .inr (by omega)
theorem t83 (m : Mk) (x : Sym) (hg : m.f_given.length = m.f_g.Toks.length) (h3 : 3 ≤ m.f_g.Toks.length) (h : m.f_g.Toks.length ≤ 100000000000) (hl : m.f_lefts.length ≤ 100000000000) (hx : LitOk x) :
    Tot (pf83 m x) fun r => Grow m r.2 1 ∧ SyOk r.2.f_g.Toks.length m.f_lefts.length r.1 := by
  unfold pf83
  have hgr : Grow m m 1 := ⟨hg, Nat.le_refl _, Nat.le_succ _, Nat.le_succ _, rfl, rfl, rfl, rfl, fun _ h => h⟩
  refine Tot.cd (fun _ => ?_) (fun _ => ?_)
  · exact .by' (t81 m x hg h hx) fun r ⟨hr, h0, h1⟩ => .so ⟨hr, .inl ⟨h0, h1⟩⟩
  · refine .by' (t67 m x.Name (by simp only [big]; omega)) fun k hk => Tot.cp (fun h0 => .so ⟨hgr, .inr ?_⟩) (fun _ => ?_)
    · show 1000 ≤ w64 (1001 + k) ∧ w64 (1001 + k) ≤ 1000 + (m.f_lefts.length : Int)
      rw [w64_eq]
      rcases hk with hk | hk <;> omega
    · refine .by' (t66 m x (by simp only [big]; omega)) fun t ht => Tot.cp (fun _ => ?_) (fun h0 => .so ⟨hgr, .inl ?_⟩)
      · refine .by' (t65 m _ _) fun m' hm => .so ⟨hm.1.grow hg 1, .inl ⟨Int.le_refl 0, ?_⟩⟩
        show (0 : Int) < (m'.f_g.Toks.length : Int)
        rw [hm.1.g]; omega
      · show 0 ≤ t ∧ t < (m.f_g.Toks.length : Int)
        rcases ht with ht | ht <;> omega
end Go.Proofs
namespace Go.Proofs
open Go Go.Own
set_option maxRecDepth 100000
set_option linter.unusedVariables false
theorem t83t (m : Mk) (x : Sym) (hg : m.f_given.length = m.f_g.Toks.length) (h3 : 3 ≤ m.f_g.Toks.length) (h : m.f_g.Toks.length ≤ 100000000000) (hl : m.f_lefts.length ≤ 100000000000) (hx : LitOk x) (ht : x.Lit = true ∨ ∀ y ∈ m.f_lefts, y ≠ x.Name) :
    Tot (pf83 m x) fun r => Grow m r.2 1 ∧ 0 ≤ r.1 ∧ r.1 < r.2.f_g.Toks.length := by
  unfold pf83
  have hgr : Grow m m 1 := ⟨hg, Nat.le_refl _, Nat.le_succ _, Nat.le_succ _, rfl, rfl, rfl, rfl, fun _ h => h⟩
  refine Tot.cd (fun _ => ?_) (fun hlit => ?_)
  · exact .by' (t81 m x hg h hx) fun r ⟨hr, h0, h1⟩ => .so ⟨hr, h0, h1⟩
  · have ht : ∀ y ∈ m.f_lefts, y ≠ x.Name := ht.resolve_left (by rw [hlit]; decide)
    refine .by' (t67 m x.Name (by simp only [big]; omega)) fun k hk => Tot.cp (fun h0 => ?_) (fun _ => ?_)
    · rcases hk with ⟨rfl, _⟩ | ⟨h1, h2, h3⟩
      · exact absurd h0 (by decide)
      · exact absurd rfl (ht _ (List.mem_of_getElem? h3))
    · refine .by' (t66 m x (by simp only [big]; omega)) fun t ht => Tot.cp (fun _ => ?_) (fun h0 => .so ⟨hgr, ?_⟩)
      · refine .by' (t65 m _ _) fun m' hm => .so ⟨hm.1.grow hg 1, Int.le_refl 0, ?_⟩
        show (0 : Int) < (m'.f_g.Toks.length : Int)
        rw [hm.1.g]; omega
      · show 0 ≤ t ∧ t < (m.f_g.Toks.length : Int)
        rcases ht with ht | ht <;> omega
structure PrOk (T : Nat) (N : Int) (p : Prod) : Prop where
  left : 0 ≤ p.Left ∧ p.Left ≤ N
  right : ∀ s ∈ p.Right, SyOk T N s
  prec : -1 ≤ p.Prec ∧ p.Prec < T
theorem PrOk.mono {T T' : Nat} {N N' : Int} {p : Prod} (h : PrOk T N p) (hT : T ≤ T') (hN : N ≤ N') : PrOk T' N' p :=
  ⟨⟨h.left.1, by have := h.left.2; omega⟩, fun s hs => (h.right s hs).mono hT hN, ⟨h.prec.1, by have := h.prec.2; omega⟩⟩
structure MJ (m : Mk) (T L I Q : Nat) : Prop where
  gv : m.f_given.length = m.f_g.Toks.length
  lo : 3 ≤ m.f_g.Toks.length
  hi : m.f_g.Toks.length ≤ T
  ty : m.f_types.length ≤ T
  lf : m.f_lefts.length = L
  inn : 0 ≤ m.f_inner ∧ m.f_inner ≤ I
  prn : m.f_g.Prods.length ≤ Q
  pr : ∀ p ∈ m.f_g.Prods, PrOk m.f_g.Toks.length (L + m.f_inner) p
  lvl : 0 ≤ m.f_level
  lv : ∀ t ∈ m.f_g.Toks, 0 ≤ t.Level
theorem MJ.mono {m : Mk} {T L I Q T' I' Q' : Nat} (h : MJ m T L I Q) (hT : T ≤ T') (hI : I ≤ I') (hQ : Q ≤ Q') : MJ m T' L I' Q' :=
  ⟨h.gv, h.lo, by have := h.hi; omega, by have := h.ty; omega, h.lf, ⟨h.inn.1, by have := h.inn.2; omega⟩, by have := h.prn; omega, h.pr, h.lvl, h.lv⟩
theorem MJ.grow {m m' : Mk} {T L I Q k : Nat} (h : MJ m T L I Q) (g : Grow m m' k) : MJ m' (T + k) L I Q :=
  ⟨g.gv, by have := h.lo; have := g.lo; omega, by have := h.hi; have := g.hi; omega, by have := h.ty; have := g.ty; omega, by rw [g.lf]; exact h.lf, by rw [g.inn]; exact h.inn, by rw [g.pr]; exact h.prn,
    by rw [g.pr, g.inn]; exact fun p hp => (h.pr p hp).mono g.lo (by omega), by rw [g.lvl]; exact h.lvl, g.lv h.lvl h.lv⟩
theorem t68 (m : Mk) (left : ByteArray) (a : Alt) {T L I Q : Nat} (hm : MJ m T L I Q) (hT : T ≤ 10000000000) (hL : L ≤ 10000000000) (hI : I ≤ 10000000000) (hQ : Q ≤ 10000000000) (hb : AltB a) (hok : AltOk a) :
    Tot (pf68 m left a) fun m' => MJ m' (T + 1001) L (I + 1000) (Q + 1001) ∧ 1 ≤ m'.f_g.Prods.length := by
  unfold pf68
  have hn := hb.n
  refine .by' (t67 m left (by rw [hm.lf]; simp only [big]; omega)) fun x1 hx1 => ?_
  have hx1' : -1 ≤ x1 ∧ x1 < L := by rw [← hm.lf]; rcases hx1 with h | h <;> omega
  refine Tot.by' (Ξ := fun x3 => MJ x3.1 (T + 1000) L (I + 1000) (Q + 1000) ∧ (∀ s ∈ x3.2.1, SyOk x3.1.f_g.Toks.length (L + x3.1.f_inner) s) ∧ x3.2.1.length ≤ 1000) ?_ fun x3 hx3 => ?_
  · refine Tot.count (fun s => s.2.2.2.2) a.Parts.length (fun s => 0 ≤ s.2.2.2.2 ∧ s.2.2.2.2 ≤ a.Parts.length ∧ MJ s.1 (T + s.2.2.2.2.toNat) L (I + s.2.2.2.2.toNat) (Q + s.2.2.2.2.toNat) ∧ (∀ y ∈ s.2.1, SyOk s.1.f_g.Toks.length (L + s.1.f_inner) y) ∧ s.2.1.length ≤ s.2.2.2.2.toNat) ⟨by show (0:Int) ≤ 0; omega, by show (0:Int) ≤ _; omega, hm, by simp, Nat.le_refl 0⟩ (by show (a.Parts.length : Int) - 0 < _; omega) fun s hs => ?_
    obtain ⟨m1, rt, cd, at_, i⟩ := s
    obtain ⟨h0, h1, hj, hr, hl⟩ := hs
    simp only at h0 h1 hj hr hl ⊢
    have hw : w64 (i + 1) = i + 1 := by rw [w64_eq]; omega
    have e1 : (i + 1).toNat = i.toNat + 1 := by omega
    refine Tot.cp (fun hlt => ?_) (fun _ => .so ⟨hj.mono (by omega) (by omega) (by omega), hr, by show rt.length ≤ 1000; omega⟩)
    refine Tot.by' (Ξ := fun j => MJ j.1 (T + (i.toNat + 1)) L (I + (i.toNat + 1)) (Q + (i.toNat + 1)) ∧ (∀ y ∈ j.2.1, SyOk j.1.f_g.Toks.length (L + j.1.f_inner) y) ∧ j.2.1.length ≤ i.toNat + 1) ?_ fun j hj6 => ?_
    · refine Tot.by' (Tot.ix (Φ := fun y => y ∈ a.Parts) h0 hlt fun y _ hy => hy) fun y hy => ?_
      refine Tot.by' (Ξ := fun j => MJ j.1 (T + (i.toNat + 1)) L (I + (i.toNat + 1)) (Q + (i.toNat + 1)) ∧ (∀ y ∈ j.2.1, SyOk j.1.f_g.Toks.length (L + j.1.f_inner) y) ∧ j.2.1.length ≤ i.toNat + 1) ?_ fun j hj8 => .so hj8
      refine Tot.by' (Ξ := fun j => MJ j.1 (T + (i.toNat + 1)) L (I + (i.toNat + 1)) (Q + (i.toNat + 1)) ∧ (∀ y ∈ j.2.1, SyOk j.1.f_g.Toks.length (L + j.1.f_inner) y) ∧ j.2.1.length ≤ i.toNat + 1) ?_ fun j hj8 => .so hj8
      refine Tot.cd (fun _ => ?_) (fun _ => ?_)
      · have hh := hj.hi
        refine .by' (t83 m1 y.Sym hj.gv hj.lo (by omega) (by rw [hj.lf]; omega) (hok.parts y hy)) fun r ⟨hg, hsy⟩ => ?_
        refine .by' (Ξ := fun _ => True) (Tot.ap (by simp [lim]; omega) trivial) fun _ _ => .so ⟨(hj.grow hg).mono (by omega) (by omega) (by omega), fun z hz => ?_, by simp; omega⟩
        rcases List.mem_append.1 hz with hz | hz
        · exact (hr z hz).mono hg.lo (by show (L : Int) + m1.f_inner ≤ L + r.2.f_inner; rw [hg.inn]; omega)
        · rw [List.mem_singleton.1 hz]
          rw [hj.lf] at hsy
          exact hsy.mono (Nat.le_refl _) (by show (L : Int) ≤ L + r.2.f_inner; rw [hg.inn]; have := hj.inn.1; omega)
      · refine Tot.by' (Ξ := fun j => MJ (⟨(⟨m1.f_g.Toks, m1.f_g.Nons, j.1, m1.f_g.Pro, m1.f_g.Tail⟩ : Grammar), m1.f_given, m1.f_types, m1.f_lefts, m1.f_e, m1.f_at, m1.f_name, m1.f_level, j.2.1⟩ : yuccaref9_maker) (T + (i.toNat + 1)) L (I + (i.toNat + 1)) (Q + (i.toNat + 1)) ∧ (∀ y ∈ j.2.2.1, SyOk m1.f_g.Toks.length (L + j.2.1) y) ∧ j.2.2.1.length ≤ i.toNat + 1) ?_ fun j hj9 => .so hj9
        refine Tot.cd (fun _ => .so ⟨⟨hj.gv, hj.lo, by have := hj.hi; show m1.f_g.Toks.length ≤ _; omega, by have := hj.ty; show m1.f_types.length ≤ _; omega, hj.lf, ⟨hj.inn.1, by have := hj.inn.2; show m1.f_inner ≤ _; omega⟩, by have := hj.prn; show m1.f_g.Prods.length ≤ _; omega, hj.pr, hj.lvl, hj.lv⟩, hr, by show rt.length ≤ _; omega⟩) (fun _ => ?_)
        have hin := hj.inn
        have hlf := hj.lf
        have hpn := hj.prn
        have w1 : w64 (m1.f_inner + 1) = m1.f_inner + 1 := by rw [w64_eq]; omega
        have w2 : w64 (((m1.f_lefts.length : Int)) + (m1.f_inner + 1)) = L + (m1.f_inner + 1) := by rw [w64_eq, hlf]; omega
        have w3 : w64 (1000 + (m1.f_lefts.length : Int)) = 1000 + L := by rw [w64_eq, hlf]; omega
        have w4 : w64 (1000 + (L : Int) + (m1.f_inner + 1)) = 1000 + (L : Int) + (m1.f_inner + 1) := by rw [w64_eq]; omega
        rw [w1, w2, w3, w4]
        refine .by' (Ξ := fun _ => True) (Tot.ap (by simp [lim]; omega) trivial) fun _ _ => .by' (Ξ := fun _ => True) (Tot.ap (by simp [lim]; omega) trivial) fun _ _ => .by' (Ξ := fun _ => True) (Tot.ap (by simp [lim]; omega) trivial) fun _ _ => .so ⟨⟨hj.gv, hj.lo, ?_, ?_, hj.lf, ?_, ?_, ?_, hj.lvl, hj.lv⟩, ?_, ?_⟩
        · have := hj.hi; show m1.f_g.Toks.length ≤ _; omega
        · have := hj.ty; show m1.f_types.length ≤ _; omega
        · show 0 ≤ m1.f_inner + 1 ∧ m1.f_inner + 1 ≤ ((I + (i.toNat + 1) : Nat) : Int); omega
        · show (m1.f_g.Prods ++ [_]).length ≤ _; simp; omega
        · intro p hp
          rcases List.mem_append.1 hp with hp | hp
          · exact (hj.pr p hp).mono (Nat.le_refl _) (by show (L : Int) + m1.f_inner ≤ L + (m1.f_inner + 1); omega)
          · rw [List.mem_singleton.1 hp]
            refine ⟨?_, by simp, ?_⟩
            · show 0 ≤ (L : Int) + (m1.f_inner + 1) ∧ (L : Int) + (m1.f_inner + 1) ≤ L + (m1.f_inner + 1); omega
            · have := hj.lo; show (-1 : Int) ≤ -1 ∧ (-1 : Int) < (m1.f_g.Toks.length : Int); omega
        · intro z hz
          rcases List.mem_append.1 hz with hz | hz
          · exact (hr z hz).mono (Nat.le_refl _) (by show (L : Int) + m1.f_inner ≤ L + (m1.f_inner + 1); omega)
          · rw [List.mem_singleton.1 hz]
            exact .inr (by show 1000 ≤ 1000 + (L : Int) + (m1.f_inner + 1) ∧ 1000 + (L : Int) + (m1.f_inner + 1) ≤ 1000 + ((L : Int) + (m1.f_inner + 1)); omega)
        · show (rt ++ [_]).length ≤ _; simp; omega
    · rw [hw]
      refine .so ⟨⟨?_, ?_, ?_, hj6.2.1, ?_⟩, ?_, ?_⟩
      · show (0:Int) ≤ i + 1; omega
      · show i + 1 ≤ (a.Parts.length : Int); omega
      · show MJ j.1 (T + (i + 1).toNat) L (I + (i + 1).toNat) (Q + (i + 1).toNat)
        rw [e1]; exact hj6.1
      · show j.2.1.length ≤ (i + 1).toNat
        rw [e1]; exact hj6.2.2
      · show i < i + 1; omega
      · show i + 1 ≤ (a.Parts.length : Int); omega
  · obtain ⟨hj, hr, hl⟩ := hx3
    have hlo := hj.lo
    have hin := hj.inn
    refine Tot.by' (Ξ := fun p => -1 ≤ p ∧ p < (x3.1.f_g.Toks.length : Int)) ?_ fun pr hpr => ?_
    · refine Tot.count (fun s => s.2) x3.2.1.length (fun s => 0 ≤ s.2 ∧ s.2 ≤ x3.2.1.length ∧ -1 ≤ s.1 ∧ s.1 < (x3.1.f_g.Toks.length : Int)) ⟨by show (0:Int) ≤ 0; omega, by show (0:Int) ≤ _; omega, by show (-1:Int) ≤ -1; omega, by show (-1:Int) < _; omega⟩ (by show (x3.2.1.length : Int) - 0 < _; omega) fun s hs => ?_
      obtain ⟨h0, h1, h2, h3⟩ := hs
      have hw : w64 (s.2 + 1) = s.2 + 1 := by rw [w64_eq]; omega
      rw [hw]
      refine Tot.cp (fun hlt => ?_) (fun _ => .so ⟨h2, h3⟩)
      refine Tot.by' (Ξ := fun p => -1 ≤ p ∧ p < (x3.1.f_g.Toks.length : Int)) ?_ fun p hp => .so ⟨⟨?_, ?_, hp.1, hp.2⟩, ?_, ?_⟩
      · refine .by' (Tot.ix (Φ := fun y => idx x3.2.1 s.2 = some y ∧ y ∈ x3.2.1) h0 hlt fun y h1 h2 => ⟨h1, h2⟩) fun y hy => ?_
        refine .by' (Ξ := fun p => -1 ≤ p ∧ p < (x3.1.f_g.Toks.length : Int)) ?_ fun p hp => .so hp
        refine Tot.cp (fun hlt => ?_) (fun _ => .so ⟨h2, h3⟩)
        rw [hy.1]
        refine Tot.sm (.so ?_)
        rcases hr y hy.2 with h | h
        · omega
        · omega
      · show (0:Int) ≤ s.2 + 1; omega
      · show s.2 + 1 ≤ (x3.2.1.length : Int); omega
      · show s.2 < s.2 + 1; omega
      · show s.2 + 1 ≤ (x3.2.1.length : Int); omega
    · refine Tot.by' (Ξ := fun j => Grow x3.1 j.1 1 ∧ -1 ≤ j.2 ∧ j.2 < (j.1.f_g.Toks.length : Int)) ?_ fun j hj27 => ?_
      · have hgr : Grow x3.1 x3.1 1 := ⟨hj.gv, Nat.le_refl _, Nat.le_succ _, Nat.le_succ _, rfl, rfl, rfl, rfl, fun _ h => h⟩
        refine Tot.cd (fun _ => ?_) (fun _ => .so ⟨hgr, hpr⟩)
        refine Tot.by' (Ξ := fun c => c = true → a.Prec.Lit = true ∨ ∀ y ∈ x3.1.f_lefts, y ≠ a.Prec.Name) ?_ fun c hc => ?_
        · refine Tot.cd (fun h => .so fun _ => .inl h) (fun _ => ?_)
          refine .by' (t67 x3.1 a.Prec.Name (by rw [hj.lf]; simp only [big]; omega)) fun k hk => .so fun hlt => ?_
          have hlt := of_decide_eq_true hlt
          rcases hk with ⟨_, h⟩ | h
          · exact .inr h
          · omega
        · refine Tot.by' (Ξ := fun j => Grow x3.1 j.1 1 ∧ -1 ≤ j.2 ∧ j.2 < (j.1.f_g.Toks.length : Int)) ?_ fun j hj => .so hj
          have hh := hj.hi
          refine Tot.cd (fun h => ?_) (fun _ => ?_)
          · refine .by' (t83t x3.1 a.Prec hj.gv hj.lo (by omega) (by rw [hj.lf]; omega) hok.prec (hc h)) fun r hr => .so ⟨hr.1, ?_, hr.2.2⟩
            have := hr.2.1; show -1 ≤ r.1; omega
          · refine .by' (t65 x3.1 _ _) fun m' hm' => .so ⟨hm'.1.grow hj.gv 1, by show (-1:Int) ≤ -1; omega, ?_⟩
            show (-1 : Int) < (m'.f_g.Toks.length : Int); omega
      · have hm' := hj.grow hj27.1
        have hpn := hm'.prn
        refine .by' (Ξ := fun _ => True) (Tot.ap (by simp [lim]; omega) trivial) fun _ _ => .by' (Ξ := fun _ => True) (Tot.ap (by simp [lim]; omega) trivial) fun _ _ => .so ⟨⟨hm'.gv, hm'.lo, ?_, ?_, hm'.lf, ⟨hm'.inn.1, ?_⟩, ?_, ?_, hm'.lvl, hm'.lv⟩, by simp⟩
        · have := hm'.hi; show j.1.f_g.Toks.length ≤ _; omega
        · have := hm'.ty; show j.1.f_types.length ≤ _; omega
        · have := hm'.inn.2; show j.1.f_inner ≤ _; omega
        · show (j.1.f_g.Prods ++ [_]).length ≤ _; simp; omega
        · intro p hp
          rcases List.mem_append.1 hp with hp | hp
          · exact hm'.pr p hp
          · rw [List.mem_singleton.1 hp]
            have hin2 := hm'.inn
            refine ⟨?_, fun z hz => ?_, hj27.2⟩
            · show 0 ≤ w64 (1 + x1) ∧ w64 (1 + x1) ≤ (L : Int) + j.1.f_inner
              rw [w64_eq]; omega
            · exact (hr z hz).mono hj27.1.lo (by show (L : Int) + x3.1.f_inner ≤ L + j.1.f_inner; rw [hj27.1.inn]; omega)
end Go.Proofs
namespace Go.Proofs
open Go Go.Own
set_option maxRecDepth 100000
set_option linter.unusedVariables false
theorem size_nums (l : List Int) : (strOfNums l).size = l.length := strOfNums_size ..
theorem t52 (n : Int) (h0 : 0 ≤ n) (h1 : n ≤ 1000000000000) : Tot (pf52 n) fun s => s.size ≤ 2000000000000 := by
  unfold pf52
  have hu : IntKind.u64.wrap n = n := by rw [IntKind.wrap_u64]; omega
  refine Tot.by' (Ξ := fun j => j = n) (Tot.cp (fun h => absurd h (by omega)) (fun _ => .so hu)) fun j hj => ?_
  subst hj
  refine Tot.by' (Ξ := fun s => s.size ≤ 1000000000001) ?_ fun s hs => Tot.cp (fun h => absurd h (by omega)) (fun _ => .so (by omega))
  refine Tot.loop (fun s => 0 ≤ s.1 ∧ s.1 + s.2.size ≤ 1000000000000 + 1 ∧ (s.2.size = 0 → s.1 ≤ 1000000000000)) (fun s => s.1.toNat + (if s.2.size = 0 then 1 else 0)) ⟨h0, by show j + ((0 : Nat) : Int) ≤ _; omega, fun _ => h1⟩ (by show j.toNat + (if (0 : Nat) = 0 then 1 else 0) < 1000000000000000000; simp; omega) fun s hs => ?_
  obtain ⟨m, t⟩ := s
  obtain ⟨g0, g1, g2⟩ := hs
  simp only at g0 g1 g2 ⊢
  refine Tot.by' (Ξ := fun c => c = true → 0 < m ∨ t.size = 0) ?_ fun c hc => Tot.cd (fun hc1 => ?_) (fun _ => .so ?_)
  · refine Tot.cp (fun h => .so fun _ => .inl h) (fun _ => .so fun h => .inr ?_)
    have := of_decide_eq_true h
    rw [this]; rfl
  · have hc := hc hc1
    refine .by' (Ξ := fun x => x = m.tmod 10) (Tot.remU (by decide) rfl) fun x hx => ?_
    refine .by' (Ξ := fun y => y.size = t.size + 1) (Tot.cat ?_ ?_) fun y hy => .by' (Ξ := fun z => z = m / 10) (Tot.quoU (by decide) ?_) fun z hz => .so ?_
    · rw [size_nums]; simp; omega
    · rw [ByteArray.size_append, size_nums]; simp; omega
    · rw [Int.tdiv_eq_ediv_of_nonneg g0, IntKind.wrap_u64]; omega
    · subst hz
      refine ⟨⟨?_, ?_, ?_⟩, ?_⟩
      · show 0 ≤ m / 10; omega
      · show m / 10 + (y.size : Int) ≤ _; rw [hy]; omega
      · intro h; have h : y.size = 0 := h; omega
      · show (m / 10).toNat + (if y.size = 0 then 1 else 0) < m.toNat + (if t.size = 0 then 1 else 0)
        rw [if_neg (by omega)]
        split <;> omega
  · show t.size ≤ 1000000000001; omega
structure GOk (g : Grammar) : Prop where
  tn : 3 ≤ g.Toks.length ∧ g.Toks.length ≤ 40
  nn : 1 ≤ g.Nons.length ∧ g.Nons.length ≤ 24
  pn : 1 ≤ g.Prods.length ∧ g.Prods.length ≤ 60
  pr : ∀ p ∈ g.Prods, PrOk g.Toks.length (g.Nons.length - 1) p
  rn : ∀ p ∈ g.Prods, p.Right.length ≤ 8
  lv : ∀ t ∈ g.Toks, 0 ≤ t.Level
structure M0 (m : Mk) (T L : Nat) : Prop where
  gv : m.f_given.length = m.f_g.Toks.length
  lo : 3 ≤ m.f_g.Toks.length
  hi : m.f_g.Toks.length ≤ 3 + T
  ty : m.f_types.length ≤ T
  lf : m.f_lefts.length ≤ L
  pr : m.f_g.Prods = []
  inn : m.f_inner = 0
  lvl : 0 ≤ m.f_level
  lv : ∀ t ∈ m.f_g.Toks, 0 ≤ t.Level
theorem M0.mono {m : Mk} {T L T' L' : Nat} (h : M0 m T L) (hT : T ≤ T') (hL : L ≤ L') : M0 m T' L' :=
  ⟨h.gv, h.lo, by have := h.hi; omega, by have := h.ty; omega, by have := h.lf; omega, h.pr, h.inn, h.lvl, h.lv⟩
theorem M0.grow {m m' : Mk} {T L k : Nat} (h : M0 m T L) (g : Grow m m' k) : M0 m' (T + k) L :=
  ⟨g.gv, by have := h.lo; have := g.lo; omega, by have := h.hi; have := g.hi; omega, by have := h.ty; have := g.ty; omega, by rw [g.lf]; exact h.lf, g.pr.trans h.pr, g.inn.trans h.inn, by rw [g.lvl]; exact h.lvl, g.lv h.lvl h.lv⟩
theorem M0.same {m m' : Mk} {T L : Nat} (h : M0 m T L) (g : Same m m') : M0 m' T L := by
  have := h.grow (g.grow h.gv 0)
  exact this
end Go.Proofs
namespace Go.Proofs
open Go Go.Own
set_option maxRecDepth 100000
set_option linter.unusedVariables false
theorem M0.mj {m : Mk} {T L : Nat} (h : M0 m T L) : MJ m (3 + T) m.f_lefts.length 0 0 :=
  ⟨h.gv, h.lo, h.hi, by have := h.ty; omega, rfl, by rw [h.inn]; decide, by rw [h.pr]; exact Nat.le_refl 0, by rw [h.pr]; exact fun p hp => absurd hp (by simp), h.lvl, h.lv⟩
theorem t50 (s : Source) (hb : SrcB s) : Tot (pf50 s) fun r => r.2.1 = 0 → GOk r.1 := by
  unfold pf50
  refine .by' (t63 s hb) fun c hc => Tot.cd (fun _ => .so fun h => absurd h (by decide)) (fun hc1 => ?_)
  have ok : SrcOk s := hc (by simpa using hc1)
  refine .by' (Tot.mk (by decide) (rfl : List.replicate (3 : Int).toNat false = List.replicate (3 : Int).toNat false)) fun x3 hx3 => ?_
  have hdn := hb.dn
  have hrn := hb.rn
  -- declarations
  refine Tot.by' (Ξ := fun r => M0 r.1 (1001 * 1000) 0) ?_ fun x5 h5 => ?_
  · refine Tot.count (fun z => z.2.2) s.Decls.length (fun z => 0 ≤ z.2.2 ∧ z.2.2 ≤ s.Decls.length ∧ M0 z.1 (1001 * z.2.2.toNat) 0 ∧ z.1.f_level ≤ z.2.2) ⟨Int.le_refl 0, by show (0:Int) ≤ _; omega, ⟨by show x3.length = 3; rw [← hx3]; rfl, Nat.le_refl 3, Nat.le_refl 3, Nat.le_refl 0, Nat.le_refl 0, rfl, rfl, Int.le_refl 0, by show ∀ t ∈ [_, _, _], 0 ≤ Tok.Level t; simp⟩, Int.le_refl 0⟩ (by show (s.Decls.length : Int) - 0 < _; omega) fun z hz => ?_
    obtain ⟨m, st, i⟩ := z
    obtain ⟨h0, h1, hm, hlv⟩ := hz
    simp only at h0 h1 hm hlv ⊢
    have hw : w64 (i + 1) = i + 1 := by rw [w64_eq]; omega
    rw [hw]
    have hl0 := hm.lvl
    refine Tot.cp (fun hlt => ?_) (fun _ => .so (hm.mono (by omega) (Nat.le_refl _)))
    refine .by' (Tot.ix (Φ := fun y => y ∈ s.Decls) h0 hlt fun y _ hy => hy) fun d hd => ?_
    have hD := hb.decls d hd
    have hdk := hD.n
    refine .by' (Ξ := fun _ => True) (Tot.cd (fun _ => .so trivial) (fun _ => .so trivial)) fun c10 _ => .by' (Ξ := fun j => 0 ≤ j ∧ j ≤ i + 1) (Tot.cd (fun _ => .so (by rw [w64_eq]; omega)) (fun _ => .so (by omega))) fun j11 h11 => ?_
    refine Tot.by' (Ξ := fun r => M0 r.1 (1001 * i.toNat + 1000) 0 ∧ r.1.f_level ≤ i + 1) ?_ fun x14 h14 => .so ⟨⟨?_, ?_, ?_, ?_⟩, ?_, ?_⟩
    · refine Tot.count (fun z => z.2.2) d.Syms.length (fun z => 0 ≤ z.2.2 ∧ z.2.2 ≤ d.Syms.length ∧ M0 z.1 (1001 * i.toNat + z.2.2.toNat) 0 ∧ z.1.f_level ≤ i + 1) ⟨Int.le_refl 0, by show (0:Int) ≤ _; omega, ⟨hm.gv, hm.lo, hm.hi, hm.ty, hm.lf, hm.pr, hm.inn, h11.1, hm.lv⟩, h11.2⟩ (by show (d.Syms.length : Int) - 0 < _; omega) fun z hz => ?_
      obtain ⟨m, st, k⟩ := z
      obtain ⟨g0, g1, hm, hlv⟩ := hz
      simp only at g0 g1 hm hlv ⊢
      have hwk : w64 (k + 1) = k + 1 := by rw [w64_eq]; omega
      rw [hwk]
      refine Tot.cp (fun hltk => ?_) (fun _ => .so ⟨hm.mono (by omega) (Nat.le_refl _), hlv⟩)
      have ixs : Tot (idx d.Syms k) fun y => y ∈ d.Syms := Tot.ix g0 hltk fun y _ hy => hy
      refine Tot.by' (Ξ := fun j => M0 j.1 (1001 * i.toNat + k.toNat + 1) 0 ∧ j.1.f_level ≤ i + 1) ?_ fun j hj => .so ⟨⟨?_, ?_, ?_, hj.2⟩, ?_, ?_⟩
      · refine Tot.cd (fun _ => ?_) (fun _ => ?_)
        · refine .by' ixs fun x hx => .by' (t64 m d x hm.gv (by have := hm.hi; omega) (by have := hm.ty; omega) (ok.decls d hd x hx)) fun m' hg => .so ⟨hm.grow hg, by show m'.f_level ≤ _; rw [hg.lvl]; exact hlv⟩
        · refine Tot.by' (Ξ := fun j => M0 j (1001 * i.toNat + k.toNat + 1) 0 ∧ j.f_level ≤ i + 1) ?_ fun j hj => .by' ixs fun _ _ => .so hj
          refine Tot.cd (fun _ => ?_) (fun _ => .so ⟨hm.mono (by omega) (Nat.le_refl _), hlv⟩)
          exact .by' ixs fun _ _ => .by' ixs fun _ _ => .by' (t65 m _ _) fun m' hm' => .so ⟨(hm.same hm'.1).mono (by omega) (Nat.le_refl _), by rw [hm'.1.lv]; exact hlv⟩
      · show 0 ≤ k + 1; omega
      · show k + 1 ≤ (d.Syms.length : Int); omega
      · show M0 j.1 (1001 * i.toNat + (k + 1).toNat) 0
        exact hj.1.mono (by omega) (Nat.le_refl _)
      · show k < k + 1; omega
      · show k + 1 ≤ (d.Syms.length : Int); omega
    · show 0 ≤ i + 1; omega
    · show i + 1 ≤ (s.Decls.length : Int); omega
    · show M0 x14.1 (1001 * (i + 1).toNat) 0
      exact h14.1.mono (by omega) (Nat.le_refl _)
    · exact h14.2
    · show i < i + 1; omega
    · show i + 1 ≤ (s.Decls.length : Int); omega
  -- what stands on the left
  refine Tot.by' (Ξ := fun r => M0 r (1001 * 1000) 1000) ?_ fun x28 h28 => ?_
  · refine Tot.count (fun z => z.2) s.Rules.length (fun z => 0 ≤ z.2 ∧ z.2 ≤ s.Rules.length ∧ M0 z.1 (1001 * 1000) z.2.toNat) ⟨Int.le_refl 0, by show (0:Int) ≤ _; omega, h5⟩ (by show (s.Rules.length : Int) - 0 < _; omega) fun z hz => ?_
    obtain ⟨m, i⟩ := z
    obtain ⟨h0, h1, hm⟩ := hz
    simp only at h0 h1 hm ⊢
    have hw : w64 (i + 1) = i + 1 := by rw [w64_eq]; omega
    rw [hw]
    refine Tot.cp (fun hlt => ?_) (fun _ => .so (hm.mono (Nat.le_refl _) (by omega)))
    have hhi := hm.hi
    have hlf := hm.lf
    refine Tot.by' (Ξ := fun j => M0 j (1001 * 1000) (i.toNat + 1)) ?_ fun j hj => .so ⟨⟨?_, ?_, ?_⟩, ?_, ?_⟩
    · refine .by' (Tot.ix (Φ := fun _ => True) h0 hlt fun y _ hy => trivial) fun r hr => .by' (t66 m _ (by simp only [big]; omega)) fun t _ => ?_
      refine Tot.by' (Ξ := fun j => M0 j (1001 * 1000) i.toNat) ?_ fun j34 h34 => ?_
      · exact Tot.cd (fun _ => .by' (t65 m _ _) fun m' hm' => .so (hm.same hm'.1)) (fun _ => .so hm)
      · have hl34 := h34.lf
        refine .by' (t67 j34 _ (by simp only [big]; omega)) fun k _ => ?_
        refine Tot.by' (Ξ := fun l => l.length ≤ i.toNat + 1) ?_ fun l hl => .so ⟨h34.gv, h34.lo, h34.hi, h34.ty, hl, h34.pr, h34.inn, h34.lvl, h34.lv⟩
        refine Tot.cd (fun _ => ?_) (fun _ => .so (by omega))
        exact .by' (Ξ := fun _ => True) (Tot.ap (by simp [lim]; omega) trivial) fun _ _ => .so (by simp; omega)
    · show 0 ≤ i + 1; omega
    · show i + 1 ≤ (s.Rules.length : Int); omega
    · show M0 j (1001 * 1000) (i + 1).toNat
      exact hj.mono (Nat.le_refl _) (by omega)
    · show i < i + 1; omega
    · show i + 1 ≤ (s.Rules.length : Int); omega
  -- types and starts
  refine Tot.by' (Ξ := fun r => M0 r (1001 * 1000) 1000) ?_ fun x42 h42 => ?_
  · refine Tot.count (fun z => z.2) s.Decls.length (fun z => 0 ≤ z.2 ∧ z.2 ≤ s.Decls.length ∧ M0 z.1 (1001 * 1000) 1000) ⟨Int.le_refl 0, by show (0:Int) ≤ _; omega, h28⟩ (by show (s.Decls.length : Int) - 0 < _; omega) fun z hz => ?_
    obtain ⟨m, i⟩ := z
    obtain ⟨h0, h1, hm⟩ := hz
    simp only at h0 h1 hm ⊢
    have hw : w64 (i + 1) = i + 1 := by rw [w64_eq]; omega
    rw [hw]
    refine Tot.cp (fun hlt => ?_) (fun _ => .so hm)
    refine Tot.by' (Ξ := fun r => M0 r (1001 * 1000) 1000) ?_ fun x46 h46 => .so ⟨⟨?_, ?_, h46⟩, ?_, ?_⟩
    · have hlt' : i.toNat < s.Decls.length := by omega
      have hi : idx s.Decls i = some s.Decls[i.toNat] := by simp [idx, h0, hlt']
      rw [hi]
      generalize hd : s.Decls[i.toNat] = d
      have hdm : d ∈ s.Decls := by rw [← hd]; exact List.getElem_mem hlt'
      have hdk := (hb.decls d hdm).n
      refine Tot.count (fun z => z.2) d.Syms.length (fun z => 0 ≤ z.2 ∧ z.2 ≤ d.Syms.length ∧ M0 z.1 (1001 * 1000) 1000) ⟨Int.le_refl 0, by show (0:Int) ≤ _; omega, hm⟩ (by show (d.Syms.length : Int) - 0 < _; omega) fun z hz => ?_
      obtain ⟨m, k⟩ := z
      obtain ⟨g0, g1, hm⟩ := hz
      simp only at g0 g1 hm ⊢
      have hwk : w64 (k + 1) = k + 1 := by rw [w64_eq]; omega
      rw [hwk]
      refine Tot.sm (Tot.cp (fun hltk => ?_) (fun _ => .so hm))
      have hlf := hm.lf
      refine Tot.by' (Ξ := fun j => M0 j (1001 * 1000) 1000) ?_ fun j hj => .so ⟨⟨?_, ?_, hj⟩, ?_, ?_⟩
      · refine Tot.sm (.by' (Tot.ix (Φ := fun _ => True) g0 hltk fun _ _ _ => trivial) fun x _ => ?_)
        refine .by' (Ξ := fun _ => True) (Tot.sm (Tot.cd (fun _ => .by' (t67 m _ (by simp only [big]; omega)) fun _ _ => .so trivial) (fun _ => .so trivial))) fun c _ => ?_
        refine Tot.by' (Ξ := fun j => M0 j (1001 * 1000) 1000) ?_ fun j hj => .so hj
        exact Tot.cd (fun _ => .by' (t65 m _ _) fun m' hm' => .so (hm.same hm'.1)) (fun _ => .so hm)
      · show 0 ≤ k + 1; omega
      · show k + 1 ≤ (d.Syms.length : Int); omega
      · show k < k + 1; omega
      · show k + 1 ≤ (d.Syms.length : Int); omega
    · show 0 ≤ i + 1; omega
    · show i + 1 ≤ (s.Decls.length : Int); omega
    · show i < i + 1; omega
    · show i + 1 ≤ (s.Decls.length : Int); omega
  -- the start
  have hpos := ok.pos
  refine Tot.by' (Ξ := fun _ => True) (Tot.cd (fun _ => .by' (Ξ := fun _ => True) (Tot.ix (by decide) (by omega) fun _ _ _ => trivial) fun _ _ => .so trivial) (fun _ => .so trivial)) fun j60 _ => ?_
  have hlf42 := h42.lf
  refine .by' (t67 x42 j60 (by simp only [big]; omega)) fun x63 h63 => ?_
  have h63' : -1 ≤ x63 ∧ x63 < x42.f_lefts.length := by rcases h63 with h | h <;> omega
  -- the alternatives
  have hL : x42.f_lefts.length ≤ 1000 := h42.lf
  generalize hLd : x42.f_lefts.length = L at hL h63'
  refine Tot.by' (Ξ := fun r => MJ r (3 + 1001 * 1000 + 1001 * 1000000) L (1001 * 1000000) (1 + 1001 * 1000000) ∧ 1 ≤ r.f_g.Prods.length) ?_ fun x65 h65p1 => ?_
  · have hmj := h42.mj
    rw [hLd] at hmj
    refine Tot.count (fun z => z.2) s.Rules.length (fun z => 0 ≤ z.2 ∧ z.2 ≤ s.Rules.length ∧ MJ z.1 (3 + 1001 * 1000 + 1001 * (1000 * z.2.toNat)) L (1001 * (1000 * z.2.toNat)) (1 + 1001 * (1000 * z.2.toNat)) ∧ 1 ≤ z.1.f_g.Prods.length) ⟨Int.le_refl 0, by show (0:Int) ≤ _; omega, ⟨hmj.gv, hmj.lo, hmj.hi, hmj.ty, hmj.lf, hmj.inn, Nat.le_refl 1, fun p hp => ?_, hmj.lvl, hmj.lv⟩, Nat.le_refl 1⟩ (by show (s.Rules.length : Int) - 0 < _; omega) fun z hz => ?_
    · rw [List.mem_singleton.1 hp]
      have hi0 := h42.inn
      have hlo := h42.lo
      refine ⟨⟨Int.le_refl 0, by show (0:Int) ≤ L + x42.f_inner; omega⟩, fun y hy => ?_, ⟨by show (-1:Int) ≤ -1; omega, by show (-1:Int) < _; omega⟩⟩
      have hy : y ∈ [w64 (1001 + x63)] := hy
      rw [List.mem_singleton.1 hy]
      have : w64 (1001 + x63) = 1001 + x63 := by rw [w64_eq]; omega
      rw [this]
      exact .inr (by show 1000 ≤ 1001 + x63 ∧ 1001 + x63 ≤ 1000 + ((L : Int) + x42.f_inner); omega)
    · obtain ⟨m, i⟩ := z
      obtain ⟨h0, h1, hm, hp1⟩ := hz
      simp only at h0 h1 hm hp1 ⊢
      have hw : w64 (i + 1) = i + 1 := by rw [w64_eq]; omega
      rw [hw]
      refine Tot.cp (fun hlt => ?_) (fun _ => .so ⟨hm.mono (by omega) (by omega) (by omega), hp1⟩)
      refine Tot.by' (Ξ := fun r => MJ r (3 + 1001 * 1000 + 1001 * (1000 * (i.toNat + 1))) L (1001 * (1000 * (i.toNat + 1))) (1 + 1001 * (1000 * (i.toNat + 1))) ∧ 1 ≤ r.f_g.Prods.length) ?_ fun x69 h69 => .so ⟨⟨?_, ?_, ?_, h69.2⟩, ?_, ?_⟩
      · have hlt' : i.toNat < s.Rules.length := by omega
        have hi : idx s.Rules i = some s.Rules[i.toNat] := by simp [idx, h0, hlt']
        rw [hi]
        generalize hd : s.Rules[i.toNat] = d
        have hdm : d ∈ s.Rules := by rw [← hd]; exact List.getElem_mem hlt'
        have hdk := (hb.rules d hdm).n
        refine Tot.count (fun z => z.2) d.Alts.length (fun z => 0 ≤ z.2 ∧ z.2 ≤ d.Alts.length ∧ MJ z.1 (3 + 1001 * 1000 + 1001 * (1000 * i.toNat + z.2.toNat)) L (1001 * (1000 * i.toNat + z.2.toNat)) (1 + 1001 * (1000 * i.toNat + z.2.toNat)) ∧ 1 ≤ z.1.f_g.Prods.length) ⟨Int.le_refl 0, by show (0:Int) ≤ _; omega, hm, hp1⟩ (by show (d.Alts.length : Int) - 0 < _; omega) fun z hz => ?_
        obtain ⟨m, k⟩ := z
        obtain ⟨g0, g1, hm, hp1⟩ := hz
        simp only at g0 g1 hm hp1 ⊢
        have hwk : w64 (k + 1) = k + 1 := by rw [w64_eq]; omega
        rw [hwk]
        refine Tot.sm (Tot.cp (fun hltk => ?_) (fun _ => .so ⟨hm.mono (by omega) (by omega) (by omega), hp1⟩))
        refine Tot.sm (Tot.sm (.by' (Tot.ix (Φ := fun y => y ∈ d.Alts) g0 hltk fun _ _ h => h) fun a ha => ?_))
        refine .by' (t68 m d.Left a hm (by omega) (by omega) (by omega) (by omega) ((hb.rules d hdm).alts a ha) (ok.rules d hdm a ha)) fun m' hm' => .so ⟨⟨?_, ?_, ?_, hm'.2⟩, ?_, ?_⟩
        · show 0 ≤ k + 1; omega
        · show k + 1 ≤ (d.Alts.length : Int); omega
        · show MJ m' (3 + 1001 * 1000 + 1001 * (1000 * i.toNat + (k + 1).toNat)) L (1001 * (1000 * i.toNat + (k + 1).toNat)) (1 + 1001 * (1000 * i.toNat + (k + 1).toNat))
          exact hm'.1.mono (by omega) (by omega) (by omega)
        · show k < k + 1; omega
        · show k + 1 ≤ (d.Alts.length : Int); omega
      · show 0 ≤ i + 1; omega
      · show i + 1 ≤ (s.Rules.length : Int); omega
      · show MJ x69 (3 + 1001 * 1000 + 1001 * (1000 * (i + 1).toNat)) L (1001 * (1000 * (i + 1).toNat)) (1 + 1001 * (1000 * (i + 1).toNat))
        exact h69.1.mono (by omega) (by omega) (by omega)
      · show i < i + 1; omega
      · show i + 1 ≤ (s.Rules.length : Int); omega
  obtain ⟨h65, h65q⟩ := h65p1
  refine Tot.cn (fun h => .so fun h' => absurd h' h) (fun he => ?_)
  have h65l := h65.lf
  have h65h := h65.hi
  have h65t := h65.ty
  have h65i := h65.inn
  have h65p := h65.prn
  -- nonterminals
  refine Tot.by' (Ξ := fun l => l.length = 1 + L) ?_ fun x79 h79 => ?_
  · refine Tot.count (fun z => z.2) x65.f_lefts.length (fun z => 0 ≤ z.2 ∧ z.2 ≤ x65.f_lefts.length ∧ z.1.length = 1 + z.2.toNat) ⟨Int.le_refl 0, by show (0:Int) ≤ _; omega, rfl⟩ (by show (x65.f_lefts.length : Int) - 0 < _; omega) fun z hz => ?_
    obtain ⟨l, i⟩ := z
    obtain ⟨h0, h1, hl⟩ := hz
    simp only at h0 h1 hl ⊢
    have hw : w64 (i + 1) = i + 1 := by rw [w64_eq]; omega
    rw [hw]
    refine Tot.cp (fun hlt => ?_) (fun _ => .so (by show l.length = 1 + L; omega))
    refine .by' (Tot.ix (Φ := fun _ => True) h0 hlt fun _ _ _ => trivial) fun x82 _ => .by' (t69 _ _ (by show x65.f_types.length ≤ _; simp only [big]; omega)) fun x83 h83 => ?_
    have h83' : x83 = -1 ∨ (0 ≤ x83 ∧ x83 < x65.f_types.length) := h83
    refine .by' (Ξ := fun _ => True) (Tot.cp (fun h => .by' (Ξ := fun _ => True) (Tot.ix h (by omega) fun _ _ _ => trivial) fun _ _ => .so trivial) (fun _ => .so trivial)) fun j84 _ => ?_
    refine .by' (Ξ := fun _ => True) (Tot.ap (by simp [lim]; omega) trivial) fun _ _ => .so ⟨⟨?_, ?_, ?_⟩, ?_, ?_⟩
    · show 0 ≤ i + 1; omega
    · show i + 1 ≤ (x65.f_lefts.length : Int); omega
    · show (l ++ [_]).length = 1 + (i + 1).toNat
      simp; omega
    · show i < i + 1; omega
    · show i + 1 ≤ (x65.f_lefts.length : Int); omega
  refine Tot.by' (Ξ := fun l => (l.length : Int) = 1 + L + x65.f_inner) ?_ fun x89 h89 => ?_
  · refine Tot.count (fun z => z.2) (x65.f_inner + 1) (fun z => 1 ≤ z.2 ∧ z.2 ≤ x65.f_inner + 1 ∧ (z.1.length : Int) = 1 + L + (z.2 - 1)) ⟨Int.le_refl 1, by show (1:Int) ≤ _; omega, by show (x79.length : Int) = 1 + L + (1 - 1); omega⟩ (by show x65.f_inner + 1 - 1 < _; omega) fun z hz => ?_
    obtain ⟨l, i⟩ := z
    obtain ⟨h0, h1, hl⟩ := hz
    simp only at h0 h1 hl ⊢
    have hw : w64 (i + 1) = i + 1 := by rw [w64_eq]; omega
    rw [hw]
    refine Tot.cp (fun hlt => ?_) (fun _ => .so (by show (l.length : Int) = 1 + L + x65.f_inner; omega))
    refine .by' (t52 i (by omega) (by omega)) fun x92 h92 => .by' (Ξ := fun _ => True) (Tot.cat (by show 1 + x92.size ≤ _; omega) trivial) fun x93 _ => ?_
    refine .by' (Ξ := fun _ => True) (Tot.ap (by simp [lim]; omega) trivial) fun _ _ => .so ⟨⟨?_, ?_, ?_⟩, ?_, ?_⟩
    · show 1 ≤ i + 1; omega
    · show i + 1 ≤ x65.f_inner + 1; omega
    · show ((l ++ [_]).length : Int) = 1 + L + (i + 1 - 1)
      simp; omega
    · show i < i + 1; omega
    · show i + 1 ≤ x65.f_inner + 1; omega
  -- numbers
  have hgv := h65.gv
  refine Tot.by' (Ξ := fun l => l.length = x65.f_g.Toks.length ∧ ∀ t ∈ l, 0 ≤ t.Level) ?_ fun x96 h96p => ?_
  · refine Tot.count (fun z => z.2.2) x65.f_g.Toks.length (fun z => 3 ≤ z.2.2 ∧ z.2.2 ≤ x65.f_g.Toks.length ∧ z.1.length = x65.f_g.Toks.length ∧ ∀ t ∈ z.1, 0 ≤ t.Level) ⟨Int.le_refl 3, by have := h65.lo; show (3:Int) ≤ _; omega, rfl, h65.lv⟩ (by show (x65.f_g.Toks.length : Int) - 3 < _; omega) fun z hz => ?_
    obtain ⟨l, n, i⟩ := z
    obtain ⟨h0, h1, hl, hv⟩ := hz
    simp only at h0 h1 hl hv ⊢
    have hw : w64 (i + 1) = i + 1 := by rw [w64_eq]; omega
    rw [hw]
    refine Tot.cp (fun hlt => ?_) (fun _ => .so ⟨hl, hv⟩)
    refine Tot.by' (Ξ := fun j => j.1.length = x65.f_g.Toks.length ∧ ∀ t ∈ j.1, 0 ≤ t.Level) ?_ fun j hj => .so ⟨⟨?_, ?_, hj⟩, ?_, ?_⟩
    · refine .by' (Tot.ix (Φ := fun _ => True) (by omega) (by rw [hgv]; omega) fun _ _ _ => trivial) fun _ _ => ?_
      refine Tot.by' (Ξ := fun j => j.1.length = x65.f_g.Toks.length ∧ ∀ t ∈ j.1, 0 ≤ t.Level) ?_ fun j hj => .so hj
      refine Tot.cd (fun _ => ?_) (fun _ => .so ⟨hl, hv⟩)
      refine .by' (Tot.ix (Φ := fun y => y ∈ l) (by omega) hlt fun _ _ h => h) fun y hy => .so ⟨by show (l.set _ _).length = _; simp [hl], fun t ht => ?_⟩
      rcases mem_set2 ht with ht | rfl
      · exact hv t ht
      · exact (hv y hy : 0 ≤ y.Level)
    · show 3 ≤ i + 1; omega
    · show i + 1 ≤ (x65.f_g.Toks.length : Int); omega
    · show i < i + 1; omega
    · show i + 1 ≤ (x65.f_g.Toks.length : Int); omega
  -- limits
  obtain ⟨h96, h96v⟩ := h96p
  refine Tot.by' (Ξ := fun c => c = false → x96.length ≤ 40 ∧ x89.length ≤ 24 ∧ x65.f_g.Prods.length ≤ 60) ?_ fun c106 h106 => ?_
  · refine Tot.cp (fun _ => .so fun h => by cases h) (fun h1 => Tot.cp (fun _ => .so fun h => by cases h) (fun h2 => .so fun h => ?_))
    have h3 := of_decide_eq_false h
    omega
  refine Tot.by' (Ξ := fun c => c = false → c106 = false ∧ ∀ p ∈ x65.f_g.Prods, p.Right.length ≤ 8) ?_ fun x108 h108 => ?_
  · refine Tot.count (fun z => z.2) x65.f_g.Prods.length (fun z => 0 ≤ z.2 ∧ z.2 ≤ x65.f_g.Prods.length ∧ (z.1 = false → c106 = false ∧ ∀ (j : Nat) (p : Prod), (j : Int) < z.2 → x65.f_g.Prods[j]? = some p → p.Right.length ≤ 8)) ⟨Int.le_refl 0, by show (0:Int) ≤ _; omega, fun h => ⟨h, fun j p hj => by have hj : (j : Int) < 0 := hj; omega⟩⟩ (by show (x65.f_g.Prods.length : Int) - 0 < _; omega) fun z hz => ?_
    obtain ⟨c, i⟩ := z
    obtain ⟨h0, h1, hl⟩ := hz
    simp only at h0 h1 hl ⊢
    have hw : w64 (i + 1) = i + 1 := by rw [w64_eq]; omega
    rw [hw]
    refine Tot.cp (fun hlt => ?_) (fun hge => .so fun h => ⟨(hl h).1, fun p hp => ?_⟩)
    · refine Tot.by' (Ξ := fun c' => c' = false → c = false ∧ ∀ p, x65.f_g.Prods[i.toNat]? = some p → p.Right.length ≤ 8) ?_ fun c' hc' => .so ⟨⟨?_, ?_, fun h => ?_⟩, ?_, ?_⟩
      · refine Tot.cd (fun _ => .so fun h => by cases h) (fun hcf => .by' (Tot.ix (Φ := fun y => idx x65.f_g.Prods i = some y) h0 hlt fun _ h _ => h) fun y hy => .so fun h => ⟨hcf, fun p hp => ?_⟩)
        have h2 := (idx_spec hy).2.2
        rw [hp] at h2; cases h2
        have := of_decide_eq_false h
        omega
      · show 0 ≤ i + 1; omega
      · show i + 1 ≤ (x65.f_g.Prods.length : Int); omega
      · obtain ⟨a1, a2⟩ := hc' h
        obtain ⟨b1, b2⟩ := hl a1
        refine ⟨b1, fun j p hj hp => ?_⟩
        have hj : (j : Int) < i + 1 := hj
        by_cases hji : (j : Int) < i
        · exact b2 j p hji hp
        · have : j = i.toNat := by omega
          subst this
          exact a2 p hp
      · show i < i + 1; omega
      · show i + 1 ≤ (x65.f_g.Prods.length : Int); omega
    · obtain ⟨j, hj, rfl⟩ := List.mem_iff_getElem.1 hp
      exact (hl h).2 j _ (by omega) (List.getElem?_eq_getElem hj)
  refine Tot.cd (fun _ => .so fun h => absurd h (by decide)) (fun hc => .so fun _ => ?_)
  obtain ⟨a1, a2⟩ := h108 hc
  obtain ⟨b1, b2, b3⟩ := h106 a1
  have hlo := h65.lo
  refine ⟨⟨?_, b1⟩, ⟨?_, b2⟩, ⟨h65q, b3⟩, fun p hp => ?_, a2, h96v⟩
  · show 3 ≤ x96.length; omega
  · show 1 ≤ x89.length; omega
  · have := h65.pr p hp
    exact this.mono (by show _ ≤ x96.length; omega) (by show (L : Int) + x65.f_inner ≤ ((x89.length : Nat) : Int) - 1; omega)
end Go.Proofs
namespace Go.Proofs
open Go Go.Own
set_option maxRecDepth 100000
set_option linter.unusedVariables false
theorem cutS_le (s : ByteArray) (m n : Int) (h : 0 ≤ m ∧ m ≤ n ∧ n ≤ s.size) : (cutS s m n).size ≤ (n - m).toNat := by
  unfold cutS
  simp [ByteArray.size_extract]
  omega
theorem t27 (s : ByteArray) (n : Int) (h0 : 0 ≤ n) : Tot (pf27 s n) fun t => (t.size : Int) ≤ n := by
  unfold pf27
  refine Tot.cp (fun h => ?_) (fun h => .so (by omega))
  refine .by' (Ξ := fun t => (t.size : Int) ≤ n) (Tot.cut (by omega) ?_) fun t ht => .so ht
  have := cutS_le s 0 n (by omega)
  omega
theorem t45 (x : Sym) : Tot (pf45 x) fun y => y.Name.size ≤ big := by
  unfold pf45
  refine .by' (t27 _ 25 (by decide)) fun t ht => .so ?_
  show t.size ≤ 1000000000000; omega
theorem Tot.make {β : Type} {f : List β × Int → Option ((List β × Int) ⊕ List β)} (n : Int) (P : β → Prop) (hn : 0 ≤ n ∧ n ≤ 1000000)
    (hs : ∀ (l : List β) (i : Int), 0 ≤ i → i ≤ n → (l.length : Int) = i → (∀ y ∈ l, P y) → Tot (f (l, i)) (LR (fun s' => i < n ∧ s'.2 = i + 1 ∧ ∃ y, s'.1 = l ++ [y] ∧ P y) (fun r => r = l))) :
    Tot (loopM f ([], 0)) fun l => (l.length : Int) ≤ n ∧ ∀ y ∈ l, P y := by
  refine Tot.count (fun s => s.2) n (fun s => 0 ≤ s.2 ∧ s.2 ≤ n ∧ (s.1.length : Int) = s.2 ∧ ∀ y ∈ s.1, P y) ⟨Int.le_refl 0, hn.1, rfl, by simp⟩ (by show n - 0 < _; omega) fun s hI => ?_
  obtain ⟨l, i⟩ := s
  obtain ⟨h0, h1, h2, h3⟩ := hI
  refine (hs l i h0 h1 h2 h3).use fun x hx => ?_
  rcases x with s' | r
  · obtain ⟨a1, a2, y, a3, a4⟩ := hx
    refine ⟨⟨by rw [a2]; omega, by rw [a2]; omega, by rw [a2, a3]; simp at h2 ⊢; omega, fun z hz => ?_⟩, by show i < s'.2; rw [a2]; omega, by rw [a2]; omega⟩
    rw [a3] at hz
    rcases List.mem_append.1 hz with hz | hz
    · exact h3 z hz
    · rw [List.mem_singleton.1 hz]; exact a4
  · have : r = l := hx
    subst this
    exact ⟨by simp at h2; omega, h3⟩
theorem t16 (s : Source) : Tot (pf16 s) SrcB := by
  unfold pf16
  refine .by' (t27 s.Pro 40 (by decide)) fun x1 h1 => .by' (t27 s.Tail 40 (by decide)) fun x2 h2 => ?_
  refine .by' (Tot.make 8 DeclB (by decide) fun l i h0 hin hl hP => ?_) fun x4 h4 => ?_
  · refine .by' (Ξ := fun c => c = true → i < s.Decls.length ∧ i < 8) (Tot.cp (fun h => .so fun h2 => ⟨h, of_decide_eq_true h2⟩) (fun _ => .so fun h => by cases h)) fun c hc => Tot.cd (fun hc1 => ?_) (fun _ => .so rfl)
    obtain ⟨hi, hi8⟩ := hc hc1
    have hlt' : i.toNat < s.Decls.length := by omega
    have hidx : idx s.Decls i = some s.Decls[i.toNat] := by simp [idx, h0, hlt']
    rw [hidx]
    generalize s.Decls[i.toNat] = d
    have hw : w64 (i + 1) = i + 1 := by rw [w64_eq]; omega
    refine Tot.sm (Tot.sm (.by' (t27 d.Tag 25 (by decide)) fun x11 h11 => Tot.sm ?_))
    refine .by' (Tot.make 6 (fun x => x.Name.size ≤ big) (by decide) fun l' k g0 gin gl gP => ?_) fun x14 h14 => ?_
    · refine .by' (Ξ := fun c => c = true → k < d.Syms.length ∧ k < 6) (Tot.sm (Tot.cp (fun h => .so fun h2 => ⟨h, of_decide_eq_true h2⟩) (fun _ => .so fun h => by cases h))) fun c hc => Tot.cd (fun hc1 => ?_) (fun _ => .so rfl)
      obtain ⟨hk, hk6⟩ := hc hc1
      refine Tot.sm (.by' (Tot.ix (Φ := fun _ => True) g0 hk fun _ _ _ => trivial) fun x21 _ => .by' (t45 x21) fun x22 h22 => .by' (Ξ := fun _ => True) (Tot.ap (by simp [lim]; omega) trivial) fun _ _ => .so ⟨hk6, ?_, _, rfl, h22⟩)
      show w64 (k + 1) = k + 1; rw [w64_eq]; omega
    · refine .by' (Ξ := fun _ => True) (Tot.ap (by simp [lim]; omega) trivial) fun _ _ => .so ⟨hi8, hw, _, rfl, ⟨?_, ?_, h14.2⟩⟩
      · show x11.size ≤ 1000000000000; omega
      · have := h14.1; show x14.length ≤ 1000; omega
  · refine .by' (Tot.make 6 RuleB (by decide) fun l i h0 hin hl hP => ?_) fun x26 h26 => .so ⟨?_, ?_, h4.2, ?_, h26.2⟩
    · refine .by' (Ξ := fun c => c = true → i < s.Rules.length ∧ i < 6) (Tot.cp (fun h => .so fun h2 => ⟨h, of_decide_eq_true h2⟩) (fun _ => .so fun h => by cases h)) fun c hc => Tot.cd (fun hc1 => ?_) (fun _ => .so rfl)
      obtain ⟨hi, hi8⟩ := hc hc1
      have hlt' : i.toNat < s.Rules.length := by omega
      have hidx : idx s.Rules i = some s.Rules[i.toNat] := by simp [idx, h0, hlt']
      rw [hidx]
      generalize s.Rules[i.toNat] = d
      have hw : w64 (i + 1) = i + 1 := by rw [w64_eq]; omega
      refine Tot.sm (.by' (t27 d.Left 25 (by decide)) fun x32 h32 => Tot.sm ?_)
      refine .by' (Tot.make 5 AltB (by decide) fun l' k g0 gin gl gP => ?_) fun x35 h35 => ?_
      · refine .by' (Ξ := fun c => c = true → k < d.Alts.length ∧ k < 5) (Tot.sm (Tot.cp (fun h => .so fun h2 => ⟨h, of_decide_eq_true h2⟩) (fun _ => .so fun h => by cases h))) fun c hc => Tot.cd (fun hc1 => ?_) (fun _ => .so rfl)
        obtain ⟨hk, hk6⟩ := hc hc1
        have hkt' : k.toNat < d.Alts.length := by omega
        have hkdx : idx d.Alts k = some d.Alts[k.toNat] := by simp [idx, g0, hkt']
        simp only [Option.bind_some, hkdx]
        generalize d.Alts[k.toNat] = a
        have hwk : w64 (k + 1) = k + 1 := by rw [w64_eq]; omega
        refine .by' (t45 a.Prec) fun x43 h43 => ?_
        refine .by' (Tot.make 6 (fun p => p.Sym.Name.size ≤ big ∧ p.Code.size ≤ big) (by decide) fun l2 j e0 ein el eP => ?_) fun x47 h47 => ?_
        · refine .by' (Ξ := fun c => c = true → j < a.Parts.length ∧ j < 6) (Tot.cp (fun h => .so fun h2 => ⟨h, of_decide_eq_true h2⟩) (fun _ => .so fun h => by cases h)) fun c hc => Tot.cd (fun hc1 => ?_) (fun _ => .so rfl)
          obtain ⟨hj, hj6⟩ := hc hc1
          refine .by' (Tot.ix (Φ := fun _ => True) e0 hj fun _ _ _ => trivial) fun x56 _ => .by' (t45 x56.Sym) fun x57 h57 => .by' (t27 x56.Code 60 (by decide)) fun x58 h58 => .by' (Ξ := fun _ => True) (Tot.ap (by simp [lim]; omega) trivial) fun _ _ => .so ⟨hj6, ?_, _, rfl, h57, ?_⟩
          · show w64 (j + 1) = j + 1; rw [w64_eq]; omega
          · show x58.size ≤ 1000000000000; omega
        · refine .by' (Ξ := fun _ => True) (Tot.ap (by simp [lim]; omega) trivial) fun _ _ => .so ⟨hk6, hwk, _, rfl, ⟨?_, h47.2, h43⟩⟩
          have := h47.1; show x47.length ≤ 1000; omega
      · refine .by' (Ξ := fun _ => True) (Tot.ap (by simp [lim]; omega) trivial) fun _ _ => .so ⟨hi8, hw, _, rfl, ⟨?_, ?_, h35.2⟩⟩
        · show x32.size ≤ 1000000000000; omega
        · have := h35.1; show x35.length ≤ 1000; omega
    · show x1.size ≤ 1000000000000; omega
    · have := h4.1; show x4.length ≤ 1000; omega
    · have := h26.1; show x26.length ≤ 1000; omega
end Go.Proofs
