/-
  What is proved here: parts of the proof that the last text states: rules for walks through code, and of this program's functions what they answer. No condition of their own.
-/
import Derived.KernelRfl
import Derived.Test.YtbhfhichpmffoaaRows
import Derived.Test.YtbhfhichpmffoaaE3
namespace Go.Proofs
open Go Go.Own
set_option maxRecDepth 100000
set_option linter.unusedVariables false
theorem sl33 : slT Try.prog 33 3 1 = true := by kernel_rfl
theorem ct3 : cellT Try.prog 3 = true := by kernel_rfl
theorem mixo : Try.prog.follows .mixedOrders = true := by kernel_rfl
theorem fd83_0 : fldT Try.prog 83 0 0 33 = true := by kernel_rfl
theorem ct33 : cellT Try.prog 33 = true := by kernel_rfl
theorem call48 : callT Try.prog 48 = true := by kernel_rfl
theorem fd83_1 : fldT Try.prog 83 1 1 33 = true := by kernel_rfl
theorem fd83_2 : fldT Try.prog 83 2 2 33 = true := by kernel_rfl
theorem call91 : callT Try.prog 91 = true := by kernel_rfl
theorem ct78 : cellT Try.prog 78 = true := by kernel_rfl
theorem sl78 : slT Try.prog 78 53 1 = true := by kernel_rfl
theorem ct53 : cellT Try.prog 53 = true := by kernel_rfl
theorem sl53 : slT Try.prog 53 61 2 = true := by kernel_rfl
theorem call62 : callT Try.prog 62 = true := by kernel_rfl
theorem zt3 : zeroT Try.prog 3 1 = true := by kernel_rfl
theorem call67 : callT Try.prog 67 = true := by kernel_rfl
theorem ze146 : (Try.prog.info? 146).bind (·.zero) = some (.agg (List.replicate 1000 (Value.bool false)).toArray) := by kernel_rfl
theorem at61 : aggT Try.prog 61 2 = true := by kernel_rfl
theorem ze61 : (Try.prog.info? 61).bind (·.zero) = some (.agg #[.int .i64 0, .int .i64 0]) := by kernel_rfl
theorem sz61 : sizeT Try.prog 61 2 = true := by kernel_rfl
theorem fd61_0 : fldT Try.prog 61 0 0 3 = true := by kernel_rfl
theorem ar146 : arrT Try.prog 146 4 1000 1 = true := by kernel_rfl
theorem ct4 : cellT Try.prog 4 = true := by kernel_rfl
theorem sz4 : sizeT Try.prog 4 1 = true := by kernel_rfl
theorem call93 : callT Try.prog 93 = true := by kernel_rfl
theorem call126 : callT Try.prog 126 = true := by kernel_rfl
theorem call92 : callT Try.prog 92 = true := by kernel_rfl
theorem ze83 : (Try.prog.info? 83).bind (·.zero) = some (.agg #[.slice none 0 0, .slice none 0 0, .slice none 0 0]) := by kernel_rfl
theorem call65 : callT Try.prog 65 = true := by kernel_rfl
theorem sc83 : structT Try.prog 83 [(0, 1), (1, 1), (2, 1)] = true := by kernel_rfl
theorem sz83 : sizeT Try.prog 83 3 = true := by kernel_rfl
theorem at83 : aggT Try.prog 83 3 = true := by kernel_rfl
theorem ze3 : (Try.prog.info? 3).bind (·.zero) = some (.int .i64 0) := by kernel_rfl
theorem bb3 : (Try.prog.info? 3).map (·.bytes) = some 8 := by kernel_rfl
theorem ap33 : appT Try.prog 33 3 1 8 = true := by kernel_rfl
theorem call50 : callT Try.prog 50 = true := by kernel_rfl
theorem call66 : callT Try.prog 66 = true := by kernel_rfl
theorem call68 : callT Try.prog 68 = true := by kernel_rfl
theorem sz3 : sizeT Try.prog 3 1 = true := by kernel_rfl
theorem sz33 : sizeT Try.prog 33 1 = true := by kernel_rfl
theorem fd61_1 : fldT Try.prog 61 1 1 3 = true := by kernel_rfl
theorem call30 : callT Try.prog 30 = true := by kernel_rfl
theorem sl40 : slT Try.prog 40 33 1 = true := by kernel_rfl
theorem call35 : callT Try.prog 35 = true := by kernel_rfl
theorem sc61 : structT Try.prog 61 [(0, 1), (1, 1)] = true := by kernel_rfl
theorem zt61 : zeroT Try.prog 61 2 = true := by kernel_rfl
theorem ap53 : appT Try.prog 53 61 2 16 = true := by kernel_rfl
theorem zt53 : zeroT Try.prog 53 1 = true := by kernel_rfl
theorem ap78 : appT Try.prog 78 53 1 24 = true := by kernel_rfl
theorem call41 : callT Try.prog 41 = true := by kernel_rfl
theorem call44 : callT Try.prog 44 = true := by kernel_rfl
theorem call40 : callT Try.prog 40 = true := by kernel_rfl
theorem call37 : callT Try.prog 37 = true := by kernel_rfl
theorem call38 : callT Try.prog 38 = true := by kernel_rfl
theorem call43 : callT Try.prog 43 = true := by kernel_rfl
theorem bt4 : boolT Try.prog 4 = true := by kernel_rfl
def pf48 (a0 : (List Int)) (a1 : (List Int)) : Option (Bool) :=
 (bif !decide ((a0.length : Int) = (a1.length : Int)) then
 some false
 else
 (loopM (R := (Unit) ⊕ (Bool)) (fun (s2 : Int) =>
 (bif decide (s2 < (a0.length : Int)) then
 (idx a0 s2).bind fun x7 =>
 (idx a1 s2).bind fun x8 =>
 (bif !decide (x7 = x8) then
 some (.inr (.inr false))
 else
 some (.inl (w64 (s2 + 1))))
 else
 some (.inr (.inl ())))) 0).bind fun x3 =>
 (match x3 with
 | .inl x4 =>
 some true
 | .inr x5 =>
 some x5))
theorem con48 (a0 : (List Int)) (a1 : (List Int)) (r : Bool) (h : pf48 a0 a1 = some r) : Con Try.prog 48 [iR eI a0, iR eI a1] [none, none] (BB r) := by
  unfold pf48 at h
  refine Con.go (N := ⟨26, []⟩) Try.func48 rfl rfl rfl rfl (W.fin ?_)
  refine W.st [(0, iR eI a0), (1, iR eI a1)] ?_
  refine W.sq' ?_
  refine W.rx [(0, _), (1, _)] (Rv (O.as (.k rfl)) <| RunL.fin (.n rfl (.n rfl .nil))) ?_
  refine Px.sq ?_
  refine W.sq' ?_
  refine W.sq' ?_
  refine W.rx [(0, _), (1, _), (10, _)] (Rv (O.mv (.imm rfl)) <| Rv (O.lenI (.imm rfl) sl33) <| Rv (O.mv (.imm rfl)) <| Rv (O.lenI (.imm rfl) sl33) <| Rv (O.neq (.lit rfl) (.lit rfl)) <| RunL.fin (.n rfl (.n rfl (.n rfl .nil)))) ?_
  refine Px.sq ?_
  refine W.cnd rfl (fun hb1 => ?_) (fun hb1 => ?_)
  · replace h := cndT hb1 h
    refine W.sq' ?_
    refine W.rx [(4, _)] (Rv (O.as (.k rfl)) <| RunL.fin (.n rfl .nil)) ?_
    refine Px.sq ?_
    refine W.rt ?_
    refine Px.sqR ?_
    obtain rfl := sm h
    exact Px.fin (Fin.ro (.f rfl rfl .nil) rfl (of_decide_eq_true (by kernel_rfl)) (.no (.no .nil)) rfl (.inr rfl))
  · replace h := cndF hb1 h
    refine W.sk ?_
    refine Px.sq ?_
    refine W.sq' ?_
    refine W.sq' ?_
    refine W.rx [(0, _), (1, _), (5, _)] (Rv (O.as (.k rfl)) <| RunL.fin (.n rfl (.n rfl (.n rfl .nil)))) ?_
    refine Px.sq ?_
    refine W.bk ?_
    obtain ⟨x3, hl, h⟩ := bnd h
    refine W.tr (G1 := [(0, iR eI a0), (1, iR eI a1), (5, I64 0)]) (.n rfl (.n rfl (.n rfl .nil))) ?_
    refine W.lp2 (s := 0) (fun (s2 : Int) => [(0, iR eI a0), (1, iR eI a1), (5, I64 s2)]) 0 (fun (x4 : Unit) => []) (fun (x5 : Bool) => [(4, BB x5)]) hl (fun s2 o h => ?_) (fun x4 hx => ?_) (fun x5 hx => ?_)
    · clear hl
      refine W.sq' ?_
      refine W.sq' ?_
      refine W.rx [(0, _), (1, _), (5, _), (14, _)] (Rv (O.mv (.lit rfl)) <| Rv (O.mv (.imm rfl)) <| Rv (O.lenI (.imm rfl) sl33) <| Rv (O.lss (.lit rfl) (.lit rfl)) <| RunL.fin (.n rfl (.n rfl (.n rfl (.n rfl .nil))))) ?_
      refine Px.sq ?_
      refine W.cnd rfl (fun hb6 => ?_) (fun hb6 => ?_)
      · replace h := cndT hb6 h
        refine W.sk ?_
        refine Px.sq ?_
        refine W.sq' ?_
        refine W.bk ?_
        refine W.sq' ?_
        obtain ⟨x7, hx7, h⟩ := bnd h
        obtain ⟨x8, hx8, h⟩ := bnd h
        refine W.rd [[], [], [0, 1], [0, 1, 2], [], [], [4, 5], [4, 5, 6], rn 0 8 []] [(0, _), (1, _), (5, _), (25, _)] mixo (by kernel_rfl) (Dv 0 (O.mv (.imm rfl)) <| Dv 1 (O.mv (.lit rfl)) <| Dv 2 (O.ixI (.imm rfl) (.lit rfl) sl33 hx7) <| Dv 3 (O.ldI (x := I64 x7) (.iptr rfl) ct3 rfl) <| Dv 4 (O.mv (.imm rfl)) <| Dv 5 (O.mv (.lit rfl)) <| Dv 6 (O.ixI (.imm rfl) (.lit rfl) sl33 hx8) <| Dv 7 (O.ldI (x := I64 x8) (.iptr rfl) ct3 rfl) <| Dv 8 (O.neq (.lit rfl) (.lit rfl)) <| DL.fin rfl rfl rfl (.n rfl (.n rfl (.n rfl (.n rfl .nil))))) ?_
        refine Px.sq ?_
        refine W.cnd rfl (fun hb9 => ?_) (fun hb9 => ?_)
        · replace h := cndT hb9 h
          refine W.sq' ?_
          refine W.rx [(4, _)] (Rv (O.as (.k rfl)) <| RunL.fin (.n rfl .nil)) ?_
          refine Px.sq ?_
          refine W.rt ?_
          refine Px.bkR ?_
          refine Px.sqR ?_
          obtain rfl := sm h
          exact Px.r2 (.n rfl .nil)
        · replace h := cndF hb9 h
          refine W.sk ?_
          refine Px.bk ?_
          refine Px.sq ?_
          refine W.rx [(0, _), (1, _), (5, _)] (Rv (O.mv (.lit rfl)) <| Rv (O.add (.lit rfl) (.k rfl)) <| RunL.re (G1 := [(0, iR eI a0), (1, iR eI a1), (16, I64 (w64 (s2 + 1)))]) (.n rfl (.n rfl (.n rfl .nil))) <| Rv (O.as (.lit rfl)) <| RunL.fin (.n rfl (.n rfl (.n rfl .nil)))) ?_
          obtain rfl := sm h
          exact Px.go (.n rfl (.n rfl (.n rfl .nil)))
      · replace h := cndF hb6 h
        refine W.xi ?_
        refine Px.sqE ?_
        obtain rfl := sm h
        exact Px.x2 .nil
    · subst hx
      refine Px.bkH ?_
      refine Px.sq ?_
      refine W.sq' ?_
      refine W.rx [(4, _)] (Rv (O.as (.k rfl)) <| RunL.fin (.n rfl .nil)) ?_
      refine Px.sq ?_
      refine W.rt ?_
      obtain rfl := sm h
      exact Px.fin (Fin.ro (.f rfl rfl .nil) rfl (of_decide_eq_true (by kernel_rfl)) (.no (.no .nil)) rfl (.inr rfl))
    · subst hx
      refine Px.bkR ?_
      refine Px.sqR ?_
      obtain rfl := sm h
      exact Px.fin (Fin.ro (.f rfl rfl .nil) rfl (of_decide_eq_true (by kernel_rfl)) (.no (.no .nil)) rfl (.inr rfl))
structure Comb where
  Base : (List Int)
  Val : (List Int)
  Chk : (List Int)
  deriving DecidableEq, Inhabited
def pf40 (a0 : Comb) (a1 : Comb) : Option (Bool) :=
 (((pf48 a0.Base a1.Base).bind fun x1 => (bif x1 then ((pf48 a0.Val a1.Val).bind fun x3 => (bif x3 then ((pf48 a0.Chk a1.Chk).bind fun x5 => some x5) else some false)) else some false))).bind fun c6 =>
 some c6
theorem con40 (a0 : Comb) (a1 : Comb) (r : Bool) (h : pf40 a0 a1 = some r) : Con Try.prog 40 [.agg [iR eI a0.Base, iR eI a0.Val, iR eI a0.Chk], .agg [iR eI a1.Base, iR eI a1.Val, iR eI a1.Chk]] [none, none] (BB r) := by
  unfold pf40 at h
  refine Con.go (N := ⟨24, []⟩) Try.func40 rfl rfl rfl rfl (W.fin ?_)
  refine W.st [(0, .agg [iR eI a0.Base, iR eI a0.Val, iR eI a0.Chk]), (1, .agg [iR eI a1.Base, iR eI a1.Val, iR eI a1.Chk])] ?_
  refine W.sq' ?_
  refine W.rx [(2, _), (3, _)] (Rv (O.box (.aggF rfl rfl) rfl) <| Rv (O.box (.aggF rfl rfl) rfl) <| Rv (O.as (.k rfl)) <| RunL.fin (.n rfl (.n rfl .nil))) ?_
  refine Px.sq ?_
  refine W.sq' ?_
  obtain ⟨c6, hj, h⟩ := bnd h
  refine W.rx [(4, BB c6)] ?_ ?_
  · refine Rv (O.fO rfl (.obj rfl) fd83_0 rfl) <| Rv (O.ldO (y := iR eI a0.Base) rfl (.ptr rfl) ct33 rfl rfl) <| Rv (O.fO rfl (.obj rfl) fd83_0 rfl) <| Rv (O.ldO (y := iR eI a1.Base) rfl (.ptr rfl) ct33 rfl rfl) ?_
    obtain ⟨x1, hx1, hj⟩ := bnd hj
    refine Rc (PC.go (.cc (.imm rfl) (.cc (.imm rfl) .nil)) (con48 a0.Base a1.Base _ hx1) call48 rfl) <| Rv (O.mv (.lit rfl)) ?_
    rcases cnd hj with ⟨hb2, hj⟩ | ⟨hb2, hj⟩
    · refine RunL.v (O.fO rfl (.obj rfl) fd83_1 rfl) rfl rfl (.yb rfl rfl hb2) <| RunL.v (O.ldO (y := iR eI a0.Val) rfl (.ptr rfl) ct33 rfl rfl) rfl rfl (.yb rfl rfl hb2) <| RunL.v (O.fO rfl (.obj rfl) fd83_1 rfl) rfl rfl (.yb rfl rfl hb2) <| RunL.v (O.ldO (y := iR eI a1.Val) rfl (.ptr rfl) ct33 rfl rfl) rfl rfl (.yb rfl rfl hb2) ?_
      obtain ⟨x3, hx3, hj⟩ := bnd hj
      refine RunL.c (PC.go (.cc (.imm rfl) (.cc (.imm rfl) .nil)) (con48 a0.Val a1.Val _ hx3) call48 rfl) rfl rfl (.yb rfl rfl hb2) <| Rv (O.pkT (.lit rfl) hb2 (.lit rfl)) <| Rv (O.mv (.lit rfl)) ?_
      rcases cnd hj with ⟨hb4, hj⟩ | ⟨hb4, hj⟩
      · refine RunL.v (O.fO rfl (.obj rfl) fd83_2 rfl) rfl rfl (.yb rfl rfl hb4) <| RunL.v (O.ldO (y := iR eI a0.Chk) rfl (.ptr rfl) ct33 rfl rfl) rfl rfl (.yb rfl rfl hb4) <| RunL.v (O.fO rfl (.obj rfl) fd83_2 rfl) rfl rfl (.yb rfl rfl hb4) <| RunL.v (O.ldO (y := iR eI a1.Chk) rfl (.ptr rfl) ct33 rfl rfl) rfl rfl (.yb rfl rfl hb4) ?_
        obtain ⟨x5, hx5, hj⟩ := bnd hj
        obtain rfl := sm hj
        exact RunL.c (PC.go (.cc (.imm rfl) (.cc (.imm rfl) .nil)) (con48 a0.Chk a1.Chk _ hx5) call48 rfl) rfl rfl (.yb rfl rfl hb4) <| Rv (O.pkT (.lit rfl) hb4 (.lit rfl)) <| Rv (O.as (.lit rfl)) <| RunL.fin (.n rfl .nil)
      · obtain rfl := sm hj
        exact RunL.ps rfl rfl hb4 rfl rfl <| RunL.ps rfl rfl hb4 rfl rfl <| RunL.ps rfl rfl hb4 rfl rfl <| RunL.ps rfl rfl hb4 rfl rfl <| RunL.ps rfl rfl hb4 rfl rfl <| Rv (O.pkF (.lit rfl) hb4 (.k rfl)) <| Rv (O.as (.lit rfl)) <| RunL.fin (.n rfl .nil)
    · obtain rfl := sm hj
      exact RunL.ps rfl rfl hb2 rfl rfl <| RunL.ps rfl rfl hb2 rfl rfl <| RunL.ps rfl rfl hb2 rfl rfl <| RunL.ps rfl rfl hb2 rfl rfl <| RunL.ps rfl rfl hb2 rfl rfl <| Rv (O.pkF (.lit rfl) hb2 (.k rfl)) <| Rv (O.mv (.lit rfl)) <| RunL.ps rfl rfl rfl rfl rfl <| RunL.ps rfl rfl rfl rfl rfl <| RunL.ps rfl rfl rfl rfl rfl <| RunL.ps rfl rfl rfl rfl rfl <| RunL.ps rfl rfl rfl rfl rfl <| Rv (O.pkF (.lit rfl) rfl (.k rfl)) <| Rv (O.as (.lit rfl)) <| RunL.fin (.n rfl .nil)
  refine Px.sq ?_
  refine W.rt ?_
  obtain rfl := sm h
  exact Px.fin (Fin.ro (.f rfl rfl .nil) rfl (of_decide_eq_true (by kernel_rfl)) (.no (.no .nil)) rfl (.inr rfl))
def pf91 (a0 : Int) : Option (Bool) :=
 some (!decide (a0 = a0))
theorem con91 (a0 : Int) (r : Bool) (h : pf91 a0 = some r) : Con Try.prog 91 [I64 a0] [none] (BB r) := by
  unfold pf91 at h
  refine Con.go (N := ⟨6, []⟩) Try.func91 rfl rfl rfl rfl (W.fin ?_)
  refine W.st [(0, I64 a0)] ?_
  refine W.sq' ?_
  refine W.rx [(0, _)] (Rv (O.as (.k rfl)) <| RunL.fin (.n rfl .nil)) ?_
  refine Px.sq ?_
  refine W.sq' ?_
  refine W.rx [(2, _)] (Rv (O.mv (.lit rfl)) <| Rv (O.mv (.lit rfl)) <| Rv (O.neq (.lit rfl) (.lit rfl)) <| Rv (O.as (.lit rfl)) <| RunL.fin (.n rfl .nil)) ?_
  refine Px.sq ?_
  refine W.rt ?_
  obtain rfl := sm h
  exact Px.fin (Fin.ro (.f rfl rfl .nil) rfl (of_decide_eq_true (by kernel_rfl)) (.no .nil) rfl (.inr rfl))
def pf62 (a0 : Int) (a1 : Int) : Option (Int) :=
 (pf91 a0).bind fun x1 =>
 (pf91 a1).bind fun x2 =>
 (bif x1 then
 (bif x2 then
 some 0
 else
 some (-1))
 else
 (bif x2 then
 some 1
 else
 (bif decide (a0 < a1) then
 some (-1)
 else
 (bif decide (a1 < a0) then
 some 1
 else
 some 0))))
theorem con62 (a0 : Int) (a1 : Int) (r : Int) (h : pf62 a0 a1 = some r) : Con Try.prog 62 [I64 a0, I64 a1] [none, none] (I64 r) := by
  unfold pf62 at h
  refine Con.go (N := ⟨20, []⟩) Try.func62 rfl rfl rfl rfl (W.fin ?_)
  refine W.st [(0, I64 a0), (1, I64 a1)] ?_
  refine W.sq' ?_
  refine W.rx [(0, _), (1, _)] (Rv (O.as (.k rfl)) <| RunL.fin (.n rfl (.n rfl .nil))) ?_
  refine Px.sq ?_
  refine W.sq' ?_
  obtain ⟨x1, hx1, h⟩ := bnd h
  refine W.rx [(0, _), (1, _), (5, _)] (Rv (O.mv (.lit rfl)) <| Rc (PC.go (.cc (.lit rfl) .nil) (con91 a0 _ hx1) call91 rfl) <| Rv (O.as (.lit rfl)) <| RunL.fin (.n rfl (.n rfl (.n rfl .nil)))) ?_
  refine Px.sq ?_
  refine W.sq' ?_
  obtain ⟨x2, hx2, h⟩ := bnd h
  refine W.rx [(0, _), (1, _), (5, _), (6, _)] (Rv (O.mv (.lit rfl)) <| Rc (PC.go (.cc (.lit rfl) .nil) (con91 a1 _ hx2) call91 rfl) <| Rv (O.as (.lit rfl)) <| RunL.fin (.n rfl (.n rfl (.n rfl (.n rfl .nil))))) ?_
  refine Px.sq ?_
  refine W.sq' ?_
  refine W.sq' ?_
  refine W.rx [(0, _), (1, _), (6, _), (11, _)] (Rv (O.mv (.lit rfl)) <| RunL.fin (.n rfl (.n rfl (.n rfl (.n rfl .nil))))) ?_
  refine Px.sq ?_
  refine W.cnd rfl (fun hb3 => ?_) (fun hb3 => ?_)
  · replace h := cndT hb3 h
    refine W.sq' ?_
    refine W.sq' ?_
    refine W.rx [(12, _)] (Rv (O.mv (.lit rfl)) <| RunL.fin (.n rfl .nil)) ?_
    refine Px.sq ?_
    refine W.cnd rfl (fun hb4 => ?_) (fun hb4 => ?_)
    · replace h := cndT hb4 h
      refine W.sq' ?_
      refine W.rx [(4, _)] (Rv (O.as (.k rfl)) <| RunL.fin (.n rfl .nil)) ?_
      refine Px.sq ?_
      refine W.rt ?_
      refine Px.sqR ?_
      refine Px.sqR ?_
      obtain rfl := sm h
      exact Px.fin (Fin.ro (.f rfl rfl .nil) rfl (of_decide_eq_true (by kernel_rfl)) (.no (.no .nil)) rfl (.inr rfl))
    · replace h := cndF hb4 h
      refine W.sk ?_
      refine Px.sq ?_
      refine W.sq' ?_
      refine W.rx [(4, _)] (Rv (O.as (.k rfl)) <| RunL.fin (.n rfl .nil)) ?_
      refine Px.sq ?_
      refine W.rt ?_
      refine Px.sqR ?_
      obtain rfl := sm h
      exact Px.fin (Fin.ro (.f rfl rfl .nil) rfl (of_decide_eq_true (by kernel_rfl)) (.no (.no .nil)) rfl (.inr rfl))
  · replace h := cndF hb3 h
    refine W.sk ?_
    refine Px.sq ?_
    refine W.sq' ?_
    refine W.sq' ?_
    refine W.rx [(0, _), (1, _), (13, _)] (Rv (O.mv (.lit rfl)) <| RunL.fin (.n rfl (.n rfl (.n rfl .nil)))) ?_
    refine Px.sq ?_
    refine W.cnd rfl (fun hb5 => ?_) (fun hb5 => ?_)
    · replace h := cndT hb5 h
      refine W.sq' ?_
      refine W.rx [(4, _)] (Rv (O.as (.k rfl)) <| RunL.fin (.n rfl .nil)) ?_
      refine Px.sq ?_
      refine W.rt ?_
      refine Px.sqR ?_
      obtain rfl := sm h
      exact Px.fin (Fin.ro (.f rfl rfl .nil) rfl (of_decide_eq_true (by kernel_rfl)) (.no (.no .nil)) rfl (.inr rfl))
    · replace h := cndF hb5 h
      refine W.sk ?_
      refine Px.sq ?_
      refine W.sq' ?_
      refine W.sq' ?_
      refine W.rx [(0, _), (1, _), (16, _)] (Rv (O.mv (.lit rfl)) <| Rv (O.mv (.lit rfl)) <| Rv (O.lss (.lit rfl) (.lit rfl)) <| RunL.fin (.n rfl (.n rfl (.n rfl .nil)))) ?_
      refine Px.sq ?_
      refine W.cnd rfl (fun hb6 => ?_) (fun hb6 => ?_)
      · replace h := cndT hb6 h
        refine W.sq' ?_
        refine W.rx [(4, _)] (Rv (O.as (.k rfl)) <| RunL.fin (.n rfl .nil)) ?_
        refine Px.sq ?_
        refine W.rt ?_
        refine Px.sqR ?_
        obtain rfl := sm h
        exact Px.fin (Fin.ro (.f rfl rfl .nil) rfl (of_decide_eq_true (by kernel_rfl)) (.no (.no .nil)) rfl (.inr rfl))
      · replace h := cndF hb6 h
        refine W.sk ?_
        refine Px.sq ?_
        refine W.sq' ?_
        refine W.sq' ?_
        refine W.rx [(19, _)] (Rv (O.mv (.lit rfl)) <| Rv (O.mv (.lit rfl)) <| Rv (O.gtr (.lit rfl) (.lit rfl)) <| RunL.fin (.n rfl .nil)) ?_
        refine Px.sq ?_
        refine W.cnd rfl (fun hb7 => ?_) (fun hb7 => ?_)
        · replace h := cndT hb7 h
          refine W.sq' ?_
          refine W.rx [(4, _)] (Rv (O.as (.k rfl)) <| RunL.fin (.n rfl .nil)) ?_
          refine Px.sq ?_
          refine W.rt ?_
          refine Px.sqR ?_
          obtain rfl := sm h
          exact Px.fin (Fin.ro (.f rfl rfl .nil) rfl (of_decide_eq_true (by kernel_rfl)) (.no (.no .nil)) rfl (.inr rfl))
        · replace h := cndF hb7 h
          refine W.sk ?_
          refine Px.sq ?_
          refine W.sq' ?_
          refine W.rx [(4, _)] (Rv (O.as (.k rfl)) <| RunL.fin (.n rfl .nil)) ?_
          refine Px.sq ?_
          refine W.rt ?_
          obtain rfl := sm h
          exact Px.fin (Fin.ro (.f rfl rfl .nil) rfl (of_decide_eq_true (by kernel_rfl)) (.no (.no .nil)) rfl (.inr rfl))
def pf67 (a0 : (List Int)) : Option (Int) :=
 (loopM (R := (Unit) ⊕ (Int)) (fun (s1 : Int) =>
 (bif decide (s1 < (a0.length : Int)) then
 (idx a0 s1).bind fun x6 =>
 (bif !decide (x6 = 0) then
 some (.inr (.inr x6))
 else
 some (.inl (w64 (s1 + 1))))
 else
 some (.inr (.inl ())))) 0).bind fun x2 =>
 (match x2 with
 | .inl x3 =>
 some 0
 | .inr x4 =>
 some x4)
theorem con67 (a0 : (List Int)) (r : Int) (h : pf67 a0 = some r) : Con Try.prog 67 [iR eI a0] [none] (I64 r) := by
  unfold pf67 at h
  refine Con.go (N := ⟨18, []⟩) Try.func67 rfl rfl rfl rfl (W.fin ?_)
  refine W.st [(0, iR eI a0)] ?_
  refine W.sq' ?_
  refine W.rx [(0, _)] (Rv (O.as (.k rfl)) <| RunL.fin (.n rfl .nil)) ?_
  refine Px.sq ?_
  refine W.sq' ?_
  refine W.rx [(0, _), (3, _)] (Rv (O.as (.k rfl)) <| RunL.fin (.n rfl (.n rfl .nil))) ?_
  refine Px.sq ?_
  refine W.sq' ?_
  refine W.sq' ?_
  refine W.rx [(3, _), (6, _), (7, _), (8, _)] (Rv (O.mv (.imm rfl)) <| Rv (O.lenI (.imm rfl) sl33) <| Rv (O.mv (.k rfl)) <| RunL.fin (.n rfl (.n rfl (.n rfl (.n rfl .nil))))) ?_
  refine Px.sq ?_
  refine W.bk ?_
  obtain ⟨x2, hl, h⟩ := bnd h
  refine W.tr (G1 := [(3, I64 0), (6, iR eI a0), (7, I64 (a0.length : Int)), (8, I64 0)]) (.n rfl (.n rfl (.n rfl (.n rfl .nil)))) ?_
  refine W.lp2 (s := 0) (fun (s1 : Int) => [(3, I64 0), (6, iR eI a0), (7, I64 (a0.length : Int)), (8, I64 s1)]) 0 (fun (x3 : Unit) => [(3, I64 0)]) (fun (x4 : Int) => [(2, I64 x4)]) hl (fun s1 o h => ?_) (fun x3 hx => ?_) (fun x4 hx => ?_)
  · clear hl
    refine W.sq' ?_
    refine W.rx [(3, _), (6, _), (7, _), (8, _), (9, _)] (Rv (O.lss (.lit rfl) (.lit rfl)) <| RunL.fin (.n rfl (.n rfl (.n rfl (.n rfl (.n rfl .nil)))))) ?_
    refine Px.sq ?_
    refine W.sq' ?_
    refine W.cnd rfl (fun hb5 => ?_) (fun hb5 => ?_)
    · replace h := cndT hb5 h
      refine W.sk ?_
      refine Px.sq ?_
      refine W.sq' ?_
      refine W.bk ?_
      refine W.sq' ?_
      obtain ⟨x6, hx6, h⟩ := bnd h
      refine W.rx [(3, _), (5, _), (6, _), (7, _), (8, _)] (Rv (O.ixI (.imm rfl) (.lit rfl) sl33 hx6) <| Rv (O.ldI (x := I64 x6) (.iptr rfl) ct3 rfl) <| Rv (O.as (.lit rfl)) <| RunL.fin (.n rfl (.n rfl (.n rfl (.n rfl (.n rfl .nil)))))) ?_
      refine Px.sq ?_
      refine W.sq' ?_
      refine W.rx [(3, _), (5, _), (6, _), (7, _), (8, _), (14, _)] (Rv (O.mv (.lit rfl)) <| Rv (O.mv (.lit rfl)) <| Rv (O.neq (.lit rfl) (.lit rfl)) <| RunL.fin (.n rfl (.n rfl (.n rfl (.n rfl (.n rfl (.n rfl .nil))))))) ?_
      refine Px.sq ?_
      refine W.cnd rfl (fun hb7 => ?_) (fun hb7 => ?_)
      · replace h := cndT hb7 h
        refine W.sq' ?_
        refine W.rx [(2, _)] (Rv (O.mv (.lit rfl)) <| Rv (O.as (.lit rfl)) <| RunL.fin (.n rfl .nil)) ?_
        refine Px.sq ?_
        refine W.rt ?_
        refine Px.bkR ?_
        refine Px.sqR ?_
        obtain rfl := sm h
        exact Px.r2 (.n rfl .nil)
      · replace h := cndF hb7 h
        refine W.sk ?_
        refine Px.bk ?_
        refine Px.sq ?_
        refine W.rx [(3, _), (6, _), (7, _), (8, _)] (Rv (O.add (.lit rfl) (.k rfl)) <| RunL.re (G1 := [(3, I64 0), (6, iR eI a0), (7, I64 (a0.length : Int)), (16, I64 (w64 (s1 + 1)))]) (.n rfl (.n rfl (.n rfl (.n rfl .nil)))) <| Rv (O.mv (.lit rfl)) <| RunL.fin (.n rfl (.n rfl (.n rfl (.n rfl .nil))))) ?_
        obtain rfl := sm h
        exact Px.go (.n rfl (.n rfl (.n rfl (.n rfl .nil))))
    · replace h := cndF hb5 h
      refine W.xi ?_
      refine Px.sqE ?_
      obtain rfl := sm h
      exact Px.x2 (.n rfl .nil)
  · subst hx
    refine Px.bkH ?_
    refine Px.sq ?_
    refine W.sq' ?_
    refine W.rx [(2, _)] (Rv (O.mv (.lit rfl)) <| Rv (O.as (.lit rfl)) <| RunL.fin (.n rfl .nil)) ?_
    refine Px.sq ?_
    refine W.rt ?_
    obtain rfl := sm h
    exact Px.fin (Fin.ro (.f rfl rfl .nil) rfl (of_decide_eq_true (by kernel_rfl)) (.no .nil) rfl (.inr rfl))
  · subst hx
    refine Px.bkR ?_
    refine Px.sqR ?_
    obtain rfl := sm h
    exact Px.fin (Fin.ro (.f rfl rfl .nil) rfl (of_decide_eq_true (by kernel_rfl)) (.no .nil) rfl (.inr rfl))
structure Pair where
  At : Int
  Val : Int
  deriving DecidableEq, Inhabited
def ePair : En Pair := ⟨2, fun x => [I64 x.At, I64 x.Val], fun _ => rfl, fun _ => NRl.nr⟩
instance : Flat ePair := ⟨fun _ => rfl⟩
instance : OOe ePair := ⟨fun x => (inferInstance : OOl [I64 x.At, I64 x.Val])⟩
instance : Tw ePair ePair := ⟨rfl, fun x => (inferInstance : Vws [I64 x.At, I64 x.Val] [I64 x.At, I64 x.Val])⟩
def pf66 (a0 : Int) (a1 : Int) (c0 : (List (List Pair))) : Option (Int) :=
 (idx c0 a1).bind fun x1 =>
 (idx c0 a0).bind fun x2 =>
 (pf62 (x1.length : Int) (x2.length : Int)).bind fun x3 =>
 (pf62 a0 a1).bind fun x4 =>
 (pf67 [x3, x4]).bind fun x5 =>
 some x5
theorem con66 (a0 : Int) (a1 : Int) (c0 : (List (List Pair))) (r : Int) (h : pf66 a0 a1 c0 = some r) : Con Try.prog 66 [I64 a0, I64 a1, .iptr ([iR (eM ePair) c0])] [none, none, none] (I64 r) := by
  unfold pf66 at h
  refine Con.go (N := ⟨22, []⟩) Try.func66 rfl rfl rfl rfl (W.fin ?_)
  refine W.st [(0, I64 a0), (1, I64 a1), (2, .iptr ([iR (eM ePair) c0]))] ?_
  refine W.sq' ?_
  refine W.rx [(0, _), (1, _), (2, _)] (Rv (O.as (.k rfl)) <| RunL.fin (.n rfl (.n rfl (.n rfl .nil)))) ?_
  refine Px.sq ?_
  refine W.sq' ?_
  obtain ⟨x1, hx1, h⟩ := bnd h
  obtain ⟨x2, hx2, h⟩ := bnd h
  obtain ⟨x3, hx3, h⟩ := bnd h
  obtain ⟨x4, hx4, h⟩ := bnd h
  obtain ⟨x5, hx5, h⟩ := bnd h
  refine W.rd [[], [], [0, 1], [0, 1, 2], [0, 1, 2, 3], [], [], [5, 6], [5, 6, 7], [5, 6, 7, 8], rn 0 10 [], [], [], rn 0 13 [], rn 0 14 [], rn 0 15 [], rn 0 16 []] [(5, _)] mixo (by kernel_rfl) (Dv 0 (O.ldI (x := iR (eM ePair) c0) (.iptr rfl) ct78 rfl) <| Dv 1 (O.mv (.lit rfl)) <| Dv 2 (O.ixI (.imm rfl) (.lit rfl) sl78 hx1) <| Dv 3 (O.ldI (x := iR ePair x1) (.iptr rfl) ct53 rfl) <| Dv 4 (O.lenI (.imm rfl) sl53) <| Dv 5 (O.ldI (x := iR (eM ePair) c0) (.iptr rfl) ct78 rfl) <| Dv 6 (O.mv (.lit rfl)) <| Dv 7 (O.ixI (.imm rfl) (.lit rfl) sl78 hx2) <| Dv 8 (O.ldI (x := iR ePair x2) (.iptr rfl) ct53 rfl) <| Dv 9 (O.lenI (.imm rfl) sl53) <| Dc 10 (PC.go (.cc (.lit rfl) (.cc (.lit rfl) .nil)) (con62 (x1.length : Int) (x2.length : Int) _ hx3) call62 rfl) <| Dv 11 (O.mv (.lit rfl)) <| Dv 12 (O.mv (.lit rfl)) <| Dc 13 (PC.go (.cc (.lit rfl) (.cc (.lit rfl) .nil)) (con62 a0 a1 _ hx4) call62 rfl) <| DL.vi 14 (x := iR eI [x3, x4]) (O.bs (ys := [I64 x3, I64 x4]) eI [x3, x4] sl33 rfl rfl rfl rfl rfl rfl zt3 rfl rfl) rfl rfl rfl rfl .none <| Dc 15 (PC.go (.cc (.imm rfl) .nil) (con67 [x3, x4] _ hx5) call67 rfl) <| Dv 16 (O.as (.lit rfl)) <| DL.fin rfl rfl rfl (.n rfl .nil)) ?_
  refine Px.sq ?_
  refine W.rt ?_
  obtain rfl := sm h
  exact Px.fin (Fin.ro (.f rfl rfl .nil) rfl (of_decide_eq_true (by kernel_rfl)) (.no (.no (.no .nil))) rfl (.inr rfl))
def pf65 (a0 : (List (List Pair))) : Option (Bool) :=
 (bif decide (400 < (a0.length : Int)) then
 some false
 else
 (loopM (R := (Unit) ⊕ (Bool)) (fun (s2 : Int) =>
 (bif decide (s2 < (a0.length : Int)) then
 (idx a0 s2).bind fun x7 =>
 (loopM (R := (Unit) ⊕ (Bool)) (fun (s8 : List Bool × Int) =>
 (bif decide (s8.2 < (x7.length : Int)) then
 (idx x7 s8.2).bind fun x13 =>
 ((bif decide (x13.At < 0) then some true else (bif decide (1000 ≤ x13.At) then some true else ((idxA 1000 s8.1 x13.At).bind fun x16 => some x16)))).bind fun c17 =>
 (bif c17 then
 some (.inr (.inr false))
 else
 (idxA 1000 s8.1 x13.At).bind fun x19 =>
 some (.inl (s8.1.set x13.At.toNat true, w64 (s8.2 + 1))))
 else
 some (.inr (.inl ())))) ((List.replicate 1000 false), 0)).bind fun x9 =>
 (match x9 with
 | .inl x10 =>
 some (.inl (w64 (s2 + 1)))
 | .inr x11 =>
 some (.inr (.inr x11)))
 else
 some (.inr (.inl ())))) 0).bind fun x3 =>
 (match x3 with
 | .inl x4 =>
 some true
 | .inr x5 =>
 some x5))
theorem con65 (a0 : (List (List Pair))) (r : Bool) (h : pf65 a0 = some r) : Con Try.prog 65 [iR (eM ePair) a0] [none] (BB r) := by
  unfold pf65 at h
  refine Con.go (N := ⟨42, []⟩) Try.func65 rfl rfl rfl rfl (W.fin ?_)
  refine W.st [(0, iR (eM ePair) a0)] ?_
  refine W.sq' ?_
  refine W.rx [(0, _)] (Rv (O.as (.k rfl)) <| RunL.fin (.n rfl .nil)) ?_
  refine Px.sq ?_
  refine W.sq' ?_
  refine W.sq' ?_
  refine W.rx [(0, _), (10, _)] (Rv (O.mv (.imm rfl)) <| Rv (O.lenI (.imm rfl) sl78) <| Rv (O.gtr (.lit rfl) (.k rfl)) <| RunL.fin (.n rfl (.n rfl .nil))) ?_
  refine Px.sq ?_
  refine W.cnd rfl (fun hb1 => ?_) (fun hb1 => ?_)
  · replace h := cndT hb1 h
    refine W.sq' ?_
    refine W.rx [(2, _)] (Rv (O.as (.k rfl)) <| RunL.fin (.n rfl .nil)) ?_
    refine Px.sq ?_
    refine W.rt ?_
    refine Px.sqR ?_
    obtain rfl := sm h
    exact Px.fin (Fin.ro (.f rfl rfl .nil) rfl (of_decide_eq_true (by kernel_rfl)) (.no .nil) rfl (.inr rfl))
  · replace h := cndF hb1 h
    refine W.sk ?_
    refine Px.sq ?_
    refine W.sq' ?_
    refine W.sq' ?_
    refine W.rx [(11, _), (12, _), (13, _)] (Rv (O.mv (.imm rfl)) <| Rv (O.lenI (.imm rfl) sl78) <| Rv (O.mv (.k rfl)) <| RunL.fin (.n rfl (.n rfl (.n rfl .nil)))) ?_
    refine Px.sq ?_
    refine W.bk ?_
    obtain ⟨x3, hl, h⟩ := bnd h
    refine W.tr (G1 := [(11, iR (eM ePair) a0), (12, I64 (a0.length : Int)), (13, I64 0)]) (.n rfl (.n rfl (.n rfl .nil))) ?_
    refine W.lp2 (s := 0) (fun (s2 : Int) => [(11, iR (eM ePair) a0), (12, I64 (a0.length : Int)), (13, I64 s2)]) 0 (fun (x4 : Unit) => []) (fun (x5 : Bool) => [(2, BB x5)]) hl (fun s2 o h => ?_) (fun x4 hx => ?_) (fun x5 hx => ?_)
    · clear hl
      refine W.sq' ?_
      refine W.rx [(11, _), (12, _), (13, _), (14, _)] (Rv (O.lss (.lit rfl) (.lit rfl)) <| RunL.fin (.n rfl (.n rfl (.n rfl (.n rfl .nil))))) ?_
      refine Px.sq ?_
      refine W.sq' ?_
      refine W.cnd rfl (fun hb6 => ?_) (fun hb6 => ?_)
      · replace h := cndT hb6 h
        refine W.sk ?_
        refine Px.sq ?_
        refine W.sq' ?_
        refine W.bk ?_
        refine W.sq' ?_
        obtain ⟨x7, hx7, h⟩ := bnd h
        refine W.rx [(4, _), (11, _), (12, _), (13, _)] (Rv (O.ixI (.imm rfl) (.lit rfl) sl78 hx7) <| Rv (O.ldI (x := iR ePair x7) (.iptr rfl) ct53 rfl) <| Rv (O.as (.imm rfl)) <| RunL.fin (.n rfl (.n rfl (.n rfl (.n rfl .nil))))) ?_
        refine Px.sq ?_
        refine W.sq' ?_
        refine W.rx [(4, _), (5, _), (11, _), (12, _), (13, _)] (Rv (O.al (cs := rowc eB (List.replicate 1000 false)) ze146 (by kernel_rfl) (by kernel_rfl)) <| RunL.fin (.n rfl (.n rfl (.n rfl (.n rfl (.n rfl .nil)))))) ?_
        refine Px.sq ?_
        refine W.sq' ?_
        refine W.rx [(5, _), (11, _), (12, _), (13, _), (17, _), (18, _), (19, _)] (Rv (O.mv (.imm rfl)) <| Rv (O.lenI (.imm rfl) sl53) <| Rv (O.mv (.k rfl)) <| RunL.fin (.n rfl (.n rfl (.n rfl (.n rfl (.n rfl (.n rfl (.n rfl .nil)))))))) ?_
        refine Px.sq ?_
        refine W.bk ?_
        obtain ⟨x9, hl, h⟩ := bnd h
        refine W.tr (G1 := [(5, .obj (rowc eB (List.replicate 1000 false))), (11, iR (eM ePair) a0), (12, I64 (a0.length : Int)), (13, I64 s2), (17, iR ePair x7), (18, I64 (x7.length : Int)), (19, I64 0)]) (.n rfl (.n rfl (.n rfl (.n rfl (.n rfl (.n rfl (.n rfl .nil))))))) ?_
        refine W.lp2 (s := ((List.replicate 1000 false), 0)) (fun (s8 : List Bool × Int) => [(5, .obj (rowc eB s8.1)), (11, iR (eM ePair) a0), (12, I64 (a0.length : Int)), (13, I64 s2), (17, iR ePair x7), (18, I64 (x7.length : Int)), (19, I64 s8.2)]) 2 (fun (x10 : Unit) => [(11, iR (eM ePair) a0), (12, I64 (a0.length : Int)), (13, I64 s2)]) (fun (x11 : Bool) => [(2, BB x11)]) hl (fun s8 o h => ?_) (fun x10 hx => ?_) (fun x11 hx => ?_)
        · clear hl
          refine W.sq' ?_
          refine W.rx [(5, _), (11, _), (12, _), (13, _), (17, _), (18, _), (19, _), (20, _)] (Rv (O.lss (.lit rfl) (.lit rfl)) <| RunL.fin (.n rfl (.n rfl (.n rfl (.n rfl (.n rfl (.n rfl (.n rfl (.n rfl .nil))))))))) ?_
          refine Px.sq ?_
          refine W.sq' ?_
          refine W.cnd rfl (fun hb12 => ?_) (fun hb12 => ?_)
          · replace h := cndT hb12 h
            refine W.sk ?_
            refine Px.sq ?_
            refine W.sq' ?_
            refine W.bk ?_
            refine W.sq' ?_
            obtain ⟨x13, hx13, h⟩ := bnd h
            refine W.rx [(5, _), (7, _), (11, _), (12, _), (13, _), (17, _), (18, _), (19, _)] (Rv (O.ixI (.imm rfl) (.lit rfl) sl53 hx13) <| Rv (O.ldIN (cs' := [I64 x13.At, I64 x13.Val]) (.iptr rfl) at61 rfl rfl) <| Rv (O.al (cs := [I64 0, I64 0]) ze61 rfl rfl) <| RunL.sO (G2 := [(5, .obj (rowc eB s8.1)), (7, .obj [I64 x13.At, I64 x13.Val]), (11, iR (eM ePair) a0), (12, I64 (a0.length : Int)), (13, I64 s2), (17, iR ePair x7), (18, I64 (x7.length : Int)), (19, I64 s8.2)]) (cs2 := [I64 x13.At, I64 x13.Val]) rfl (.obj rfl) (.aggF rfl rfl) rfl sz61 rfl rfl rfl rfl (.n rfl rfl (.b rfl (.n rfl rfl (.n rfl rfl (.n rfl rfl (.n rfl rfl (.n rfl rfl (.n rfl rfl .nil)))))))) <| RunL.fin (.n rfl (.n rfl (.n rfl (.n rfl (.n rfl (.n rfl (.n rfl (.n rfl .nil))))))))) ?_
            refine Px.sq ?_
            refine W.sq' ?_
            refine W.sq' ?_
            obtain ⟨c17, hj, h⟩ := bnd h
            refine W.rx [(5, .obj (rowc eB s8.1)), (7, .obj [I64 x13.At, I64 x13.Val]), (11, iR (eM ePair) a0), (12, I64 (a0.length : Int)), (13, I64 s2), (17, iR ePair x7), (18, I64 (x7.length : Int)), (19, I64 s8.2), (36, BB c17)] ?_ ?_
            · refine Rv (O.fO rfl (.obj rfl) fd61_0 rfl) <| Rv (O.ldO (y := I64 x13.At) rfl (.ptr rfl) ct3 rfl rfl) <| Rv (O.lss (.lit rfl) (.k rfl)) <| Rv (O.mv (.lit rfl)) ?_
              rcases cnd hj with ⟨hb14, hj⟩ | ⟨hb14, hj⟩
              · obtain rfl := sm hj
                exact RunL.ps rfl rfl hb14 rfl rfl <| RunL.ps rfl rfl hb14 rfl rfl <| RunL.ps rfl rfl hb14 rfl rfl <| Rv (O.pkT (.lit rfl) hb14 (.k rfl)) <| Rv (O.mv (.lit rfl)) <| RunL.ps rfl rfl rfl rfl rfl <| RunL.ps rfl rfl rfl rfl rfl <| RunL.ps rfl rfl rfl rfl rfl <| RunL.ps rfl rfl rfl rfl rfl <| Rv (O.pkT (.lit rfl) rfl (.k rfl)) <| RunL.fin (.n rfl (.n rfl (.n rfl (.n rfl (.n rfl (.n rfl (.n rfl (.n rfl (.n rfl .nil)))))))))
              · refine RunL.v (O.fO rfl (.obj rfl) fd61_0 rfl) rfl rfl (.yb rfl rfl hb14) <| RunL.v (O.ldO (y := I64 x13.At) rfl (.ptr rfl) ct3 rfl rfl) rfl rfl (.yb rfl rfl hb14) <| RunL.v (O.geq (.lit rfl) (.k rfl)) rfl rfl (.yb rfl rfl hb14) <| Rv (O.pkF (.lit rfl) hb14 (.lit rfl)) <| Rv (O.mv (.lit rfl)) ?_
                rcases cnd hj with ⟨hb15, hj⟩ | ⟨hb15, hj⟩
                · obtain rfl := sm hj
                  exact RunL.ps rfl rfl hb15 rfl rfl <| RunL.ps rfl rfl hb15 rfl rfl <| RunL.ps rfl rfl hb15 rfl rfl <| RunL.ps rfl rfl hb15 rfl rfl <| Rv (O.pkT (.lit rfl) hb15 (.k rfl)) <| RunL.fin (.n rfl (.n rfl (.n rfl (.n rfl (.n rfl (.n rfl (.n rfl (.n rfl (.n rfl .nil)))))))))
                · refine RunL.v (O.fO rfl (.obj rfl) fd61_0 rfl) rfl rfl (.yb rfl rfl hb15) <| RunL.v (O.ldO (y := I64 x13.At) rfl (.ptr rfl) ct3 rfl rfl) rfl rfl (.yb rfl rfl hb15) ?_
                  obtain ⟨x16, hx16, hj⟩ := bnd hj
                  obtain rfl := sm hj
                  exact RunL.v (O.ixA (en := eB) (L := s8.1) rfl rfl (.lit rfl) ar146 hx16) rfl rfl (.yb rfl rfl hb15) <| RunL.v (O.ldA (en := eB) (L := s8.1) rfl (.ptr rfl) (idxA_spec hx16).2 rfl ct4 (fun _ => rfl)) rfl rfl (.yb rfl rfl hb15) <| Rv (O.pkF (.lit rfl) hb15 (.lit rfl)) <| RunL.fin (.n rfl (.n rfl (.n rfl (.n rfl (.n rfl (.n rfl (.n rfl (.n rfl (.n rfl .nil)))))))))
            refine Px.sq ?_
            refine W.cnd rfl (fun hb18 => ?_) (fun hb18 => ?_)
            · replace h := cndT hb18 h
              refine W.sq' ?_
              refine W.rx [(2, _)] (Rv (O.as (.k rfl)) <| RunL.fin (.n rfl .nil)) ?_
              refine Px.sq ?_
              refine W.rt ?_
              refine Px.sqR ?_
              refine Px.bkR ?_
              refine Px.sqR ?_
              obtain rfl := sm h
              exact Px.r2 (.n rfl .nil)
            · replace h := cndF hb18 h
              refine W.sk ?_
              refine Px.sq ?_
              obtain ⟨x19, hx19, h⟩ := bnd h
              refine W.rx [(5, _), (11, _), (12, _), (13, _), (17, _), (18, _), (19, _)] (Rv (O.fO rfl (.obj rfl) fd61_0 rfl) <| Rv (O.ldO (y := I64 x13.At) rfl (.ptr rfl) ct3 rfl rfl) <| Rv (O.ixA (en := eB) (L := s8.1) rfl rfl (.lit rfl) ar146 hx19) <| RunL.sA (G2 := [(5, .obj (rowc eB (s8.1.set x13.At.toNat true))), (11, iR (eM ePair) a0), (12, I64 (a0.length : Int)), (13, I64 s2), (17, iR ePair x7), (18, I64 (x7.length : Int)), (19, I64 s8.2)]) (en := eB) (L := s8.1) (y2 := true) rfl rfl (.ptr rfl) (.k rfl) (idxA_spec hx19).2 rfl rfl sz4 rfl (.b rfl (.n rfl rfl (.n rfl rfl (.n rfl rfl (.n rfl rfl (.n rfl rfl (.n rfl rfl .nil))))))) <| RunL.fin (.n rfl (.n rfl (.n rfl (.n rfl (.n rfl (.n rfl (.n rfl .nil)))))))) ?_
              refine Px.bk ?_
              refine Px.sq ?_
              refine W.rx [(5, _), (11, _), (12, _), (13, _), (17, _), (18, _), (19, _)] (Rv (O.add (.lit rfl) (.k rfl)) <| RunL.re (G1 := [(5, .obj (rowc eB (s8.1.set x13.At.toNat true))), (11, iR (eM ePair) a0), (12, I64 (a0.length : Int)), (13, I64 s2), (17, iR ePair x7), (18, I64 (x7.length : Int)), (40, I64 (w64 (s8.2 + 1)))]) (.n rfl (.n rfl (.n rfl (.n rfl (.n rfl (.n rfl (.n rfl .nil))))))) <| Rv (O.mv (.lit rfl)) <| RunL.fin (.n rfl (.n rfl (.n rfl (.n rfl (.n rfl (.n rfl (.n rfl .nil)))))))) ?_
              obtain rfl := sm h
              exact Px.go (.n rfl (.n rfl (.n rfl (.n rfl (.n rfl (.n rfl (.n rfl .nil)))))))
          · replace h := cndF hb12 h
            refine W.xi ?_
            refine Px.sqE ?_
            obtain rfl := sm h
            exact Px.x2 (.n rfl (.n rfl (.n rfl .nil)))
        · subst hx
          refine Px.bkH ?_
          refine Px.bk ?_
          refine Px.sq ?_
          refine W.rx [(11, _), (12, _), (13, _)] (Rv (O.add (.lit rfl) (.k rfl)) <| RunL.re (G1 := [(11, iR (eM ePair) a0), (12, I64 (a0.length : Int)), (41, I64 (w64 (s2 + 1)))]) (.n rfl (.n rfl (.n rfl .nil))) <| Rv (O.mv (.lit rfl)) <| RunL.fin (.n rfl (.n rfl (.n rfl .nil)))) ?_
          obtain rfl := sm h
          exact Px.go (.n rfl (.n rfl (.n rfl .nil)))
        · subst hx
          refine Px.bkR ?_
          refine Px.bkR ?_
          refine Px.sqR ?_
          obtain rfl := sm h
          exact Px.r2 (.n rfl .nil)
      · replace h := cndF hb6 h
        refine W.xi ?_
        refine Px.sqE ?_
        obtain rfl := sm h
        exact Px.x2 .nil
    · subst hx
      refine Px.bkH ?_
      refine Px.sq ?_
      refine W.sq' ?_
      refine W.rx [(2, _)] (Rv (O.as (.k rfl)) <| RunL.fin (.n rfl .nil)) ?_
      refine Px.sq ?_
      refine W.rt ?_
      obtain rfl := sm h
      exact Px.fin (Fin.ro (.f rfl rfl .nil) rfl (of_decide_eq_true (by kernel_rfl)) (.no .nil) rfl (.inr rfl))
    · subst hx
      refine Px.bkR ?_
      refine Px.sqR ?_
      obtain rfl := sm h
      exact Px.fin (Fin.ro (.f rfl rfl .nil) rfl (of_decide_eq_true (by kernel_rfl)) (.no .nil) rfl (.inr rfl))
def pf93 (a0 : Pair) (c0 : Int) (c1 : (List Int)) : Option (Bool) :=
 ((bif decide (w64 (c0 + a0.At) < (c1.length : Int)) then ((idx c1 (w64 (c0 + a0.At))).bind fun x2 => some (!decide (x2 = 0))) else some false)).bind fun c3 =>
 some c3
theorem con93 (a0 : Pair) (c0 : Int) (c1 : (List Int)) (r : Bool) (h : pf93 a0 c0 c1 = some r) : Con Try.prog 93 [.agg [I64 a0.At, I64 a0.Val], .iptr ([I64 c0]), .iptr ([iR eI c1])] [none, none, none] (BB r) := by
  unfold pf93 at h
  refine Con.go (N := ⟨22, []⟩) Try.func93 rfl rfl rfl rfl (W.fin ?_)
  refine W.st [(0, .agg [I64 a0.At, I64 a0.Val]), (1, .iptr ([I64 c0])), (2, .iptr ([iR eI c1]))] ?_
  refine W.sq' ?_
  refine W.rx [(1, _), (2, _), (3, _)] (Rv (O.box (.aggF rfl rfl) rfl) <| Rv (O.as (.k rfl)) <| RunL.fin (.n rfl (.n rfl (.n rfl .nil)))) ?_
  refine Px.sq ?_
  refine W.sq' ?_
  obtain ⟨c3, hj, h⟩ := bnd h
  refine W.rx [(4, BB c3)] ?_ ?_
  · refine Rv (O.ldI (x := I64 c0) (.iptr rfl) ct3 rfl) <| Rv (O.fO rfl (.obj rfl) fd61_0 rfl) <| Rv (O.ldO (y := I64 a0.At) rfl (.ptr rfl) ct3 rfl rfl) <| Rv (O.add (.lit rfl) (.lit rfl)) <| Rv (O.ldI (x := iR eI c1) (.iptr rfl) ct33 rfl) <| Rv (O.lenI (.imm rfl) sl33) <| Rv (O.lss (.lit rfl) (.lit rfl)) <| Rv (O.mv (.lit rfl)) ?_
    rcases cnd hj with ⟨hb1, hj⟩ | ⟨hb1, hj⟩
    · refine RunL.v (O.ldI (x := iR eI c1) (.iptr rfl) ct33 rfl) rfl rfl (.yb rfl rfl hb1) <| RunL.v (O.ldI (x := I64 c0) (.iptr rfl) ct3 rfl) rfl rfl (.yb rfl rfl hb1) <| RunL.v (O.fO rfl (.obj rfl) fd61_0 rfl) rfl rfl (.yb rfl rfl hb1) <| RunL.v (O.ldO (y := I64 a0.At) rfl (.ptr rfl) ct3 rfl rfl) rfl rfl (.yb rfl rfl hb1) <| RunL.v (O.add (.lit rfl) (.lit rfl)) rfl rfl (.yb rfl rfl hb1) ?_
      obtain ⟨x2, hx2, hj⟩ := bnd hj
      obtain rfl := sm hj
      exact RunL.v (O.ixI (.imm rfl) (.lit rfl) sl33 hx2) rfl rfl (.yb rfl rfl hb1) <| RunL.v (O.ldI (x := I64 x2) (.iptr rfl) ct3 rfl) rfl rfl (.yb rfl rfl hb1) <| RunL.v (O.neq (.lit rfl) (.k rfl)) rfl rfl (.yb rfl rfl hb1) <| Rv (O.pkT (.lit rfl) hb1 (.lit rfl)) <| Rv (O.as (.lit rfl)) <| RunL.fin (.n rfl .nil)
    · obtain rfl := sm hj
      exact RunL.ps rfl rfl hb1 rfl rfl <| RunL.ps rfl rfl hb1 rfl rfl <| RunL.ps rfl rfl hb1 rfl rfl <| RunL.ps rfl rfl hb1 rfl rfl <| RunL.ps rfl rfl hb1 rfl rfl <| RunL.ps rfl rfl hb1 rfl rfl <| RunL.ps rfl rfl hb1 rfl rfl <| RunL.ps rfl rfl hb1 rfl rfl <| Rv (O.pkF (.lit rfl) hb1 (.k rfl)) <| Rv (O.as (.lit rfl)) <| RunL.fin (.n rfl .nil)
  refine Px.sq ?_
  refine W.rt ?_
  obtain rfl := sm h
  exact Px.fin (Fin.ro (.f rfl rfl .nil) rfl (of_decide_eq_true (by kernel_rfl)) (.no (.no (.no .nil))) rfl (.inr rfl))
def pf126_93 (a0 : (List Pair)) (a1_0 : Int) (a1_1 : (List Int)) : Option (Int) :=
 (loopM (R := (Unit) ⊕ (Int)) (fun (s1 : Int) =>
 (bif decide (s1 < (a0.length : Int)) then
 (idx a0 s1).bind fun x6 =>
 (pf93 x6 a1_0 a1_1).bind fun x7 =>
 (bif x7 then
 some (.inr (.inr s1))
 else
 some (.inl (w64 (s1 + 1))))
 else
 some (.inr (.inl ())))) 0).bind fun x2 =>
 (match x2 with
 | .inl x3 =>
 some (-1)
 | .inr x4 =>
 some x4)
theorem con126_93 (a0 : (List Pair)) (a1_0 : Int) (a1_1 : (List Int)) (r : Int) (h : pf126_93 a0 a1_0 a1_1 = some r) : Con Try.prog 126 [iR ePair a0, .clo (.func 93) [] [.iptr ([I64 a1_0]), .iptr ([iR eI a1_1])]] [none, none] (I64 r) := by
  unfold pf126_93 at h
  refine Con.go (N := ⟨19, []⟩) Try.func126 rfl rfl rfl rfl (W.fin ?_)
  refine W.st [(0, iR ePair a0), (1, .clo (.func 93) [] [.iptr ([I64 a1_0]), .iptr ([iR eI a1_1])])] ?_
  refine W.sq' ?_
  refine W.rx [(0, _), (1, _)] (Rv (O.as (.k rfl)) <| RunL.fin (.n rfl (.n rfl .nil))) ?_
  refine Px.sq ?_
  refine W.sq' ?_
  refine W.sq' ?_
  refine W.rx [(0, _), (1, _), (7, _), (8, _)] (Rv (O.mv (.imm rfl)) <| Rv (O.lenI (.imm rfl) sl53) <| Rv (O.mv (.k rfl)) <| RunL.fin (.n rfl (.n rfl (.n rfl (.n rfl .nil))))) ?_
  refine Px.sq ?_
  refine W.bk ?_
  obtain ⟨x2, hl, h⟩ := bnd h
  refine W.tr (G1 := [(0, iR ePair a0), (1, .clo (.func 93) [] [.iptr ([I64 a1_0]), .iptr ([iR eI a1_1])]), (7, I64 (a0.length : Int)), (8, I64 0)]) (.n rfl (.n rfl (.n rfl (.n rfl .nil)))) ?_
  refine W.lp2 (s := 0) (fun (s1 : Int) => [(0, iR ePair a0), (1, .clo (.func 93) [] [.iptr ([I64 a1_0]), .iptr ([iR eI a1_1])]), (7, I64 (a0.length : Int)), (8, I64 s1)]) 0 (fun (x3 : Unit) => []) (fun (x4 : Int) => [(4, I64 x4)]) hl (fun s1 o h => ?_) (fun x3 hx => ?_) (fun x4 hx => ?_)
  · clear hl
    refine W.sq' ?_
    refine W.rx [(0, _), (1, _), (7, _), (8, _), (9, _)] (Rv (O.lss (.lit rfl) (.lit rfl)) <| RunL.fin (.n rfl (.n rfl (.n rfl (.n rfl (.n rfl .nil)))))) ?_
    refine Px.sq ?_
    refine W.sq' ?_
    refine W.cnd rfl (fun hb5 => ?_) (fun hb5 => ?_)
    · replace h := cndT hb5 h
      refine W.sk ?_
      refine Px.sq ?_
      refine W.sq' ?_
      refine W.bk ?_
      refine W.sq' ?_
      refine W.rx [(0, _), (1, _), (5, _), (7, _), (8, _)] (Rv (O.mv (.lit rfl)) <| Rv (O.as (.lit rfl)) <| RunL.fin (.n rfl (.n rfl (.n rfl (.n rfl (.n rfl .nil)))))) ?_
      refine Px.sq ?_
      refine W.sq' ?_
      obtain ⟨x6, hx6, h⟩ := bnd h
      obtain ⟨x7, hx7, h⟩ := bnd h
      refine W.rx [(0, _), (1, _), (5, _), (7, _), (8, _), (16, _)] (Rv (O.mv (.clo rfl)) <| Rv (O.mv (.imm rfl)) <| Rv (O.mv (.lit rfl)) <| Rv (O.ixI (.imm rfl) (.lit rfl) sl53 hx6) <| Rv (O.ldIN (cs' := [I64 x6.At, I64 x6.Val]) (.iptr rfl) at61 rfl rfl) <| Rc (PC.gc (.clo rfl) (.cc (.aggF rfl rfl) .nil) (con93 x6 a1_0 a1_1 _ hx7) call93 rfl) <| RunL.fin (.n rfl (.n rfl (.n rfl (.n rfl (.n rfl (.n rfl .nil))))))) ?_
      refine Px.sq ?_
      refine W.cnd rfl (fun hb8 => ?_) (fun hb8 => ?_)
      · replace h := cndT hb8 h
        refine W.sq' ?_
        refine W.rx [(4, _)] (Rv (O.mv (.lit rfl)) <| Rv (O.as (.lit rfl)) <| RunL.fin (.n rfl .nil)) ?_
        refine Px.sq ?_
        refine W.rt ?_
        refine Px.bkR ?_
        refine Px.sqR ?_
        obtain rfl := sm h
        exact Px.r2 (.n rfl .nil)
      · replace h := cndF hb8 h
        refine W.sk ?_
        refine Px.bk ?_
        refine Px.sq ?_
        refine W.rx [(0, _), (1, _), (7, _), (8, _)] (Rv (O.add (.lit rfl) (.k rfl)) <| RunL.re (G1 := [(0, iR ePair a0), (1, .clo (.func 93) [] [.iptr ([I64 a1_0]), .iptr ([iR eI a1_1])]), (7, I64 (a0.length : Int)), (18, I64 (w64 (s1 + 1)))]) (.n rfl (.n rfl (.n rfl (.n rfl .nil)))) <| Rv (O.mv (.lit rfl)) <| RunL.fin (.n rfl (.n rfl (.n rfl (.n rfl .nil))))) ?_
        obtain rfl := sm h
        exact Px.go (.n rfl (.n rfl (.n rfl (.n rfl .nil))))
    · replace h := cndF hb5 h
      refine W.xi ?_
      refine Px.sqE ?_
      obtain rfl := sm h
      exact Px.x2 .nil
  · subst hx
    refine Px.bkH ?_
    refine Px.sq ?_
    refine W.sq' ?_
    refine W.rx [(4, _)] (Rv (O.as (.k rfl)) <| RunL.fin (.n rfl .nil)) ?_
    refine Px.sq ?_
    refine W.rt ?_
    obtain rfl := sm h
    exact Px.fin (Fin.ro (.f rfl rfl .nil) rfl (of_decide_eq_true (by kernel_rfl)) (.no (.no .nil)) rfl (.inr rfl))
  · subst hx
    refine Px.bkR ?_
    refine Px.sqR ?_
    obtain rfl := sm h
    exact Px.fin (Fin.ro (.f rfl rfl .nil) rfl (of_decide_eq_true (by kernel_rfl)) (.no (.no .nil)) rfl (.inr rfl))
def pf92_93 (a0 : (List Pair)) (a1_0 : Int) (a1_1 : (List Int)) : Option (Bool) :=
 (pf126_93 a0 a1_0 a1_1).bind fun x1 =>
 some (decide (0 ≤ x1))
theorem con92_93 (a0 : (List Pair)) (a1_0 : Int) (a1_1 : (List Int)) (r : Bool) (h : pf92_93 a0 a1_0 a1_1 = some r) : Con Try.prog 92 [iR ePair a0, .clo (.func 93) [] [.iptr ([I64 a1_0]), .iptr ([iR eI a1_1])]] [none, none] (BB r) := by
  unfold pf92_93 at h
  refine Con.go (N := ⟨9, []⟩) Try.func92 rfl rfl rfl rfl (W.fin ?_)
  refine W.st [(0, iR ePair a0), (1, .clo (.func 93) [] [.iptr ([I64 a1_0]), .iptr ([iR eI a1_1])])] ?_
  refine W.sq' ?_
  refine W.rx [(0, _), (1, _)] (Rv (O.as (.k rfl)) <| RunL.fin (.n rfl (.n rfl .nil))) ?_
  refine Px.sq ?_
  refine W.sq' ?_
  obtain ⟨x1, hx1, h⟩ := bnd h
  refine W.rx [(4, _)] (Rv (O.mv (.imm rfl)) <| Rv (O.mv (.clo rfl)) <| Rc (PC.go (.cc (.imm rfl) (.cc (.clo rfl) .nil)) (con126_93 a0 a1_0 a1_1 _ hx1) call126 rfl) <| Rv (O.geq (.lit rfl) (.k rfl)) <| Rv (O.as (.lit rfl)) <| RunL.fin (.n rfl .nil)) ?_
  refine Px.sq ?_
  refine W.rt ?_
  obtain rfl := sm h
  exact Px.fin (Fin.ro (.f rfl rfl .nil) rfl (of_decide_eq_true (by kernel_rfl)) (.no (.no .nil)) rfl (.inr rfl))
def pf68 (a0 : (List Int)) (a1 : (List Pair)) (a2 : Int) : Option (Bool) :=
 (pf92_93 a1 a2 a0).bind fun x1 =>
 some (!x1)
theorem con68 (a0 : (List Int)) (a1 : (List Pair)) (a2 : Int) (r : Bool) (h : pf68 a0 a1 a2 = some r) : Con Try.prog 68 [iR eI a0, iR ePair a1, I64 a2] [none, none, none] (BB r) := by
  unfold pf68 at h
  refine Con.go (N := ⟨11, []⟩) Try.func68 rfl rfl rfl rfl (W.fin ?_)
  refine W.st [(0, iR eI a0), (1, iR ePair a1), (2, I64 a2)] ?_
  refine W.sq' ?_
  refine W.rx [(1, _), (3, _), (5, _)] (Rv (O.box (.imm rfl) rfl) <| Rv (O.box (.lit rfl) rfl) <| Rv (O.as (.k rfl)) <| RunL.fin (.n rfl (.n rfl (.n rfl .nil)))) ?_
  refine Px.sq ?_
  refine W.sq' ?_
  obtain ⟨x1, hx1, h⟩ := bnd h
  refine W.rx [(6, _)] (Rv (O.mv (.imm rfl)) <| Rv (O.mf rfl) <| Rc (PC.vw (ys := [iR ePair a1, .clo (.func 93) [] [.ptr ⟨5, []⟩ 0, .ptr ⟨3, []⟩ 0]]) rfl (.s (.c (View.cl (.c (View.p0 rfl rfl) (.c (View.p0 rfl rfl) .nil))) .nil)) (con92_93 a1 a2 a0 _ hx1) call92 rfl) <| Rv (O.not (.lit rfl)) <| Rv (O.as (.lit rfl)) <| RunL.fin (.n rfl .nil)) ?_
  refine Px.sq ?_
  refine W.rt ?_
  obtain rfl := sm h
  exact Px.fin (Fin.ro (.f rfl rfl .nil) rfl (of_decide_eq_true (by kernel_rfl)) (.no (.no (.no .nil))) rfl (.inr rfl))
def pf41 (a0 : (List (List Pair))) : Option (Comb) :=
 (pf65 a0).bind fun x1 =>
 (bif !x1 then
 some (⟨([] : List Int), ([] : List Int), ([] : List Int)⟩ : Comb)
 else
 (mkO (a0.length : Int) 0).bind fun x3 =>
 (loopM (R := List Int) (fun (s4 : List Int × Int) =>
 (bif decide (s4.2 < (a0.length : Int)) then
 ((idx a0 s4.2).bind fun x9 =>
 ((bif decide (0 < (x9.length : Int)) then
 (appO s4.1 [s4.2]).bind fun x12 =>
 some (s4.1 ++ [s4.2])
 else
 some s4.1)).bind fun j10 =>
 some j10).bind fun j8 =>
 some (.inl (j8, w64 (s4.2 + 1)))
 else
 some (.inr s4.1))) (([] : List Int), 0)).bind fun x5 =>
 (sortO (fun a b => pf66 a b a0) x5).bind fun x13 =>
 (loopM (R := Comb) (fun (s14 : Comb × Int) =>
 (bif decide (s14.2 < (x13.length : Int)) then
 (idx x13 s14.2).bind fun x18 =>
 (loopM (R := List Int) (fun (s19 : List Int) =>
 (idx a0 x18).bind fun x22 =>
 (idx s19 x18).bind fun x23 =>
 (pf68 s14.1.Chk x22 x23).bind fun x24 =>
 (bif !x24 then
 (idx s19 x18).bind fun x26 =>
 some (.inl (s19.set x18.toNat (w64 (x26 + 1))))
 else
 some (.inr s19))) s14.1.Base).bind fun x20 =>
 (idx a0 x18).bind fun x27 =>
 (loopM (R := List Int × List Int) (fun (s28 : List Int × List Int × Int) =>
 (bif decide (s28.2.2 < (x27.length : Int)) then
 (idx x27 s28.2.2).bind fun x32 =>
 (idx x20 x18).bind fun x33 =>
 (loopM (R := List Int × List Int) (fun (s34 : List Int × List Int) =>
 (bif decide ((s34.2.length : Int) ≤ w64 (x33 + x32.At)) then
 (appO s34.2 [0]).bind fun x38 =>
 (appO s34.1 [0]).bind fun x39 =>
 some (.inl (s34.1 ++ [0], s34.2 ++ [0]))
 else
 some (.inr (s34.1, s34.2)))) (s28.1, s28.2.1)).bind fun x35 =>
 (idx x35.2 (w64 (x33 + x32.At))).bind fun x40 =>
 (idx x35.1 (w64 (x33 + x32.At))).bind fun x41 =>
 some (.inl (x35.1.set (w64 (x33 + x32.At)).toNat x32.Val, x35.2.set (w64 (x33 + x32.At)).toNat (w64 (x18 + 1)), w64 (s28.2.2 + 1)))
 else
 some (.inr (s28.1, s28.2.1)))) (s14.1.Val, s14.1.Chk, 0)).bind fun x29 =>
 some (.inl ((⟨x20, x29.1, x29.2⟩ : Comb), w64 (s14.2 + 1)))
 else
 some (.inr s14.1))) ((⟨x3, ([] : List Int), ([] : List Int)⟩ : Comb), 0)).bind fun x15 =>
 some x15)
theorem con41 (a0 : (List (List Pair))) (r : Comb) (h : pf41 a0 = some r) : Con Try.prog 41 [iR (eM ePair) a0] [none] (.agg [iR eI r.Base, iR eI r.Val, iR eI r.Chk]) := by
  unfold pf41 at h
  refine Con.go (N := ⟨111, []⟩) Try.func41 rfl rfl rfl rfl (W.fin ?_)
  refine W.st [(0, iR (eM ePair) a0)] ?_
  refine W.sq' ?_
  refine W.rx [(1, _), (2, _)] (Rv (O.box (.imm rfl) rfl) <| Rv (O.al (cs := [.nils, .nils, .nils]) ze83 rfl rfl) <| RunL.fin (.n rfl (.n rfl .nil))) ?_
  refine Px.sq ?_
  refine W.sq' ?_
  refine W.sq' ?_
  obtain ⟨x1, hx1, h⟩ := bnd h
  refine W.rx [(1, _), (2, _), (13, _)] (Rv (O.ldO (y := iR (eM ePair) a0) rfl (.obj rfl) ct78 rfl rfl) <| Rc (PC.go (.cc (.imm rfl) .nil) (con65 a0 _ hx1) call65 rfl) <| Rv (O.not (.lit rfl)) <| RunL.fin (.n rfl (.n rfl (.n rfl .nil)))) ?_
  refine Px.sq ?_
  refine W.cnd rfl (fun hb2 => ?_) (fun hb2 => ?_)
  · replace h := cndT hb2 h
    refine W.sq' ?_
    refine W.rx [(2, _)] (Rv (O.bu (cs := [.nils, .nils, .nils]) sc83 ze83 rfl rfl rfl) <| RunL.sO (G2 := [(2, .obj [.nils, .nils, .nils])]) (cs2 := [.nils, .nils, .nils]) rfl (.obj rfl) (.aggF rfl rfl) rfl sz83 rfl rfl rfl rfl (.b rfl .nil) <| RunL.fin (.n rfl .nil)) ?_
    refine Px.sq ?_
    refine W.fz (G1 := [(2, .obj [iR eI ([] : List Int), iR eI ([] : List Int), iR eI ([] : List Int)])]) [2] (.z rfl rfl (FzL.obj (.z (.z (.z .nil)))) .nil) ?_
    refine W.rt ?_
    refine Px.sqR ?_
    obtain rfl := sm h
    exact Px.fin (Fin.ro (.c (ys0 := [iR eI ([] : List Int), iR eI ([] : List Int), iR eI ([] : List Int)]) rfl at83 rfl rfl rfl (.f rfl (.f rfl (.f rfl .nil))) .nil) rfl (of_decide_eq_true (by kernel_rfl)) (.no .nil) rfl (.inr rfl))
  · replace h := cndF hb2 h
    refine W.sk ?_
    refine Px.sq ?_
    refine W.sq' ?_
    obtain ⟨x3, hx3, h⟩ := bnd h
    refine W.rx [(1, _), (2, _), (3, _)] (Rv (O.ldO (y := iR (eM ePair) a0) rfl (.obj rfl) ct78 rfl rfl) <| Rv (O.lenI (.imm rfl) sl78) <| Rv (O.mk (en := eI) (z0 := 0) sl33 (.lit rfl) (.lit rfl) ze3 rfl rfl hx3 bb3 rfl) <| Rv (O.bu (cs := [.brw eI.z ⟨17, []⟩ x3.length, .nils, .nils]) sc83 ze83 rfl rfl rfl) <| Rv (O.al (cs := [.nils, .nils, .nils]) ze83 rfl rfl) <| RunL.ef (G2 := [(1, .obj [iR (eM ePair) a0]), (2, .obj [.nils, .nils, .nils]), (3, .obj [oR eI x3, oR eI ([] : List Int), oR eI ([] : List Int)])]) rfl (EO.stB (y' := .agg [oR eI x3, oR eI ([] : List Int), oR eI ([] : List Int)]) (cs2 := [oR eI x3, oR eI ([] : List Int), oR eI ([] : List Int)]) rfl rfl (.obj rfl) (.aggF rfl rfl) (.ag (.r rfl (.f (.f .nil))) .nil) (FzL.agg (.f (.o (.o .nil)))) rfl sz83 rfl rfl rfl rfl rfl (.n rfl rfl (.n rfl rfl (.b rfl .nil)))) <| RunL.fin (.n rfl (.n rfl (.n rfl .nil)))) ?_
    refine Px.sq ?_
    refine W.sq' ?_
    refine W.rx [(1, _), (2, _), (3, _), (4, _)] (Rv (O.as .knil) <| RunL.fin (.n rfl (.n rfl (.n rfl (.n rfl .nil))))) ?_
    refine Px.sq ?_
    refine W.sq' ?_
    refine W.sq' ?_
    refine W.rx [(1, _), (2, _), (3, _), (4, _), (20, _), (21, _)] (Rv (O.ldO (y := iR (eM ePair) a0) rfl (.obj rfl) ct78 rfl rfl) <| Rv (O.lenI (.imm rfl) sl78) <| Rv (O.mv (.k rfl)) <| RunL.fin (.n rfl (.n rfl (.n rfl (.n rfl (.n rfl (.n rfl .nil))))))) ?_
    refine Px.sq ?_
    refine W.bk ?_
    obtain ⟨x5, hl, h⟩ := bnd h
    refine W.tr (G1 := [(1, .obj [iR (eM ePair) a0]), (2, .obj [.nils, .nils, .nils]), (3, .obj [oR eI x3, oR eI ([] : List Int), oR eI ([] : List Int)]), (4, oR eI ([] : List Int)), (20, I64 (a0.length : Int)), (21, I64 0)]) (.n rfl (.n rfl (.n rfl (.w rfl rfl .nilOwn (.n rfl (.n rfl .nil)))))) ?_
    refine W.lp1 (s := (([] : List Int), 0)) (fun (s4 : List Int × Int) => [(1, .obj [iR (eM ePair) a0]), (2, .obj [.nils, .nils, .nils]), (3, .obj [oR eI x3, oR eI ([] : List Int), oR eI ([] : List Int)]), (4, oR eI s4.1), (20, I64 (a0.length : Int)), (21, I64 s4.2)]) 0 (fun (x5 : List Int) => [(1, .obj [iR (eM ePair) a0]), (2, .obj [.nils, .nils, .nils]), (3, .obj [oR eI x3, oR eI ([] : List Int), oR eI ([] : List Int)]), (4, oR eI x5)]) hl (fun s4 o h => ?_) ?_
    · clear hl
      refine W.sq' ?_
      refine W.rx [(1, _), (2, _), (3, _), (4, _), (20, _), (21, _), (22, _)] (Rv (O.lss (.lit rfl) (.lit rfl)) <| RunL.fin (.n rfl (.n rfl (.n rfl (.n rfl (.n rfl (.n rfl (.n rfl .nil)))))))) ?_
      refine Px.sq ?_
      refine W.sq' ?_
      refine W.cnd rfl (fun hb7 => ?_) (fun hb7 => ?_)
      · replace h := cndT hb7 h
        refine W.sk ?_
        refine Px.sq ?_
        refine W.sq' ?_
        obtain ⟨j8, hj, h⟩ := bnd h
        refine W.jn [(1, .obj [iR (eM ePair) a0]), (2, .obj [.nils, .nils, .nils]), (3, .obj [oR eI x3, oR eI ([] : List Int), oR eI ([] : List Int)]), (4, oR eI j8), (20, I64 (a0.length : Int)), (21, I64 s4.2)] ?_ ?_
        · clear h; have h := hj; clear hj
          refine W.bk ?_
          refine W.sq' ?_
          refine W.rx [(1, _), (2, _), (3, _), (4, _), (5, _), (20, _), (21, _)] (Rv (O.mv (.lit rfl)) <| Rv (O.as (.lit rfl)) <| RunL.fin (.n rfl (.n rfl (.n rfl (.n rfl (.n rfl (.n rfl (.n rfl .nil)))))))) ?_
          refine Px.sq ?_
          refine W.sq' ?_
          obtain ⟨x9, hx9, h⟩ := bnd h
          refine W.rx [(1, _), (2, _), (3, _), (4, _), (5, _), (20, _), (21, _), (29, _)] (Rv (O.ldO (y := iR (eM ePair) a0) rfl (.obj rfl) ct78 rfl rfl) <| Rv (O.mv (.lit rfl)) <| Rv (O.ixI (.imm rfl) (.lit rfl) sl78 hx9) <| Rv (O.ldI (x := iR ePair x9) (.iptr rfl) ct53 rfl) <| Rv (O.lenI (.imm rfl) sl53) <| Rv (O.gtr (.lit rfl) (.k rfl)) <| RunL.fin (.n rfl (.n rfl (.n rfl (.n rfl (.n rfl (.n rfl (.n rfl (.n rfl .nil))))))))) ?_
          refine Px.sq ?_
          obtain ⟨j10, hj, h⟩ := bnd h
          refine W.jn [(1, .obj [iR (eM ePair) a0]), (2, .obj [.nils, .nils, .nils]), (3, .obj [oR eI x3, oR eI ([] : List Int), oR eI ([] : List Int)]), (4, oR eI j10), (20, I64 (a0.length : Int)), (21, I64 s4.2)] ?_ ?_
          · clear h; have h := hj; clear hj
            refine W.cnd rfl (fun hb11 => ?_) (fun hb11 => ?_)
            · replace h := cndT hb11 h
              obtain ⟨x12, hx12, h⟩ := bnd h
              refine W.rx [(1, _), (2, _), (3, _), (4, _), (20, _), (21, _)] (Rv (O.mv (.own rfl)) <| Rv (O.mv (.lit rfl)) <| RunL.vi (x := iR eI [s4.2]) (O.bs (ys := [I64 s4.2]) eI [s4.2] sl33 rfl rfl rfl rfl rfl rfl zt3 rfl rfl) rfl rfl .none <| Rv (O.ap (en := eI) (r := x12) (.brw rfl) rfl (.imm rfl) .i ap33 rfl hx12) <| RunL.ea (G2 := [(1, .obj [iR (eM ePair) a0]), (2, .obj [.nils, .nils, .nils]), (3, .obj [oR eI x3, oR eI ([] : List Int), oR eI ([] : List Int)]), (20, I64 (a0.length : Int)), (21, I64 s4.2)]) rfl (EO.aP rfl rfl (.pend rfl) rfl rfl rfl (.n rfl rfl (.n rfl rfl (.n rfl rfl (.n rfl rfl (.n rfl rfl .nil))))) rfl rfl) <| RunL.fin (.n rfl (.n rfl (.n rfl (.n rfl (.n rfl (.n rfl .nil))))))) ?_
              obtain rfl := sm h
              exact Px.jn (.n rfl (.n rfl (.n rfl (.n rfl (.n rfl (.n rfl .nil))))))
            · replace h := cndF hb11 h
              refine W.sk ?_
              obtain rfl := sm h
              exact Px.jn (.n rfl (.n rfl (.n rfl (.n rfl (.n rfl (.n rfl .nil))))))
          refine Px.bk ?_
          obtain rfl := sm h
          exact Px.jn (.n rfl (.n rfl (.n rfl (.n rfl (.n rfl (.n rfl .nil))))))
        refine Px.sq ?_
        refine W.rx [(1, _), (2, _), (3, _), (4, _), (20, _), (21, _)] (Rv (O.add (.lit rfl) (.k rfl)) <| RunL.re (G1 := [(1, .obj [iR (eM ePair) a0]), (2, .obj [.nils, .nils, .nils]), (3, .obj [oR eI x3, oR eI ([] : List Int), oR eI ([] : List Int)]), (4, oR eI j8), (20, I64 (a0.length : Int)), (34, I64 (w64 (s4.2 + 1)))]) (.n rfl (.n rfl (.n rfl (.n rfl (.n rfl (.n rfl .nil)))))) <| Rv (O.mv (.lit rfl)) <| RunL.fin (.n rfl (.n rfl (.n rfl (.n rfl (.n rfl (.n rfl .nil))))))) ?_
        obtain rfl := sm h
        exact Px.go (.n rfl (.n rfl (.n rfl (.n rfl (.n rfl (.n rfl .nil))))))
      · replace h := cndF hb7 h
        refine W.xi ?_
        refine Px.sqE ?_
        obtain rfl := sm h
        exact Px.x1 (.n rfl (.n rfl (.n rfl (.n rfl .nil))))
    refine Px.bkH ?_
    refine Px.sq ?_
    refine W.sq' ?_
    obtain ⟨x13, hx13, h⟩ := bnd h
    refine W.rx [(1, _), (2, _), (3, _), (4, _)] (Rv (O.mv (.own rfl)) <| Rv (O.mf rfl) <| RunL.ef (G2 := [(37, .tup []), (4, oR eI x13), (1, .obj [iR (eM ePair) a0]), (2, .obj [.nils, .nils, .nils]), (3, .obj [oR eI x3, oR eI ([] : List Int), oR eI ([] : List Int)])]) rfl (EO.call rfl rfl (CallOk.lv (en := eI) (L := x5) (L' := x13) (G2 := [(1, .obj [iR (eM ePair) a0]), (2, .obj [.nils, .nils, .nils]), (3, .obj [oR eI x3, oR eI ([] : List Int), oR eI ([] : List Int)])]) (ys := [.clo (.func 66) [] [.ptr ⟨1, []⟩ 0]]) (args := [.clo (.func 66) [] [.iptr ([iR (eM ePair) a0])]]) rfl rfl rfl rfl (.c (View.cl (.c (View.p0 rfl rfl) .nil)) .nil) (sort50 call66 hx13 (fun a b v h => con66 a b a0 v h)) call50 (.n rfl (.n rfl (.n rfl .nil))) rfl rfl (.n rfl (.n rfl (.n rfl .nil))) rfl)) <| RunL.fin (.n rfl (.n rfl (.n rfl (.n rfl .nil))))) ?_
    refine Px.sq ?_
    refine W.sq' ?_
    refine W.sq' ?_
    refine W.rx [(1, _), (2, _), (3, _), (4, _), (38, .brw eI.z ⟨4, []⟩ x13.length), (39, _), (40, _)] (Rv (O.mv (.own rfl)) <| Rv (O.lenO (.brw rfl) sl33) <| Rv (O.mv (.k rfl)) <| RunL.fin (.n rfl (.n rfl (.n rfl (.n rfl (.r rfl (RK.brw (en := eI) rfl) npBrw (.n rfl (.n rfl .nil)))))))) ?_
    refine Px.sq ?_
    refine W.bk ?_
    obtain ⟨x15, hl, h⟩ := bnd h
    refine W.tr (G1 := [(1, .obj [iR (eM ePair) a0]), (2, .obj [.nils, .nils, .nils]), (3, .obj [oR eI ((⟨x3, ([] : List Int), ([] : List Int)⟩ : Comb).Base), oR eI ((⟨x3, ([] : List Int), ([] : List Int)⟩ : Comb).Val), oR eI ((⟨x3, ([] : List Int), ([] : List Int)⟩ : Comb).Chk)]), (4, oR eI x13), (38, .brw eI.z ⟨4, []⟩ x13.length), (39, I64 (x13.length : Int)), (40, I64 0)]) (.n rfl (.n rfl (.n rfl (.n rfl (.r rfl (RK.brw (en := eI) rfl) npBrw (.n rfl (.n rfl .nil))))))) ?_
    refine W.lp1 (s := ((⟨x3, ([] : List Int), ([] : List Int)⟩ : Comb), 0)) (fun (s14 : Comb × Int) => [(1, .obj [iR (eM ePair) a0]), (2, .obj [.nils, .nils, .nils]), (3, .obj [oR eI s14.1.Base, oR eI s14.1.Val, oR eI s14.1.Chk]), (4, oR eI x13), (38, .brw eI.z ⟨4, []⟩ x13.length), (39, I64 (x13.length : Int)), (40, I64 s14.2)]) 2 (fun (x15 : Comb) => [(2, .obj [.nils, .nils, .nils]), (3, .obj [oR eI x15.Base, oR eI x15.Val, oR eI x15.Chk])]) hl (fun s14 o h => ?_) ?_
    · clear hl
      refine W.sq' ?_
      refine W.rx [(1, _), (2, _), (3, _), (4, _), (38, .brw eI.z ⟨4, []⟩ x13.length), (39, _), (40, _), (41, _)] (Rv (O.lss (.lit rfl) (.lit rfl)) <| RunL.fin (.n rfl (.n rfl (.n rfl (.n rfl (.r rfl (RK.brw (en := eI) rfl) npBrw (.n rfl (.n rfl (.n rfl .nil))))))))) ?_
      refine Px.sq ?_
      refine W.sq' ?_
      refine W.cnd rfl (fun hb17 => ?_) (fun hb17 => ?_)
      · replace h := cndT hb17 h
        refine W.sk ?_
        refine Px.sq ?_
        refine W.sq' ?_
        refine W.bk ?_
        refine W.sq' ?_
        obtain ⟨x18, hx18, h⟩ := bnd h
        refine W.rx [(1, _), (2, _), (3, _), (4, _), (7, _), (38, .brw eI.z ⟨4, []⟩ x13.length), (39, _), (40, _)] (Rv (O.ixO (en := eI) rfl (.brw rfl) (.lit rfl) sl33 hx18 rfl) <| Rv (O.ldE (en := eI) (x' := I64 x18) rfl (.ptr rfl) ct3 hx18 rfl rfl) <| Rv (O.as (.lit rfl)) <| RunL.fin (.n rfl (.n rfl (.n rfl (.n rfl (.n rfl (.r rfl (RK.brw (en := eI) rfl) npBrw (.n rfl (.n rfl .nil))))))))) ?_
        refine Px.sq ?_
        refine W.sq' ?_
        refine W.bk ?_
        obtain ⟨x20, hl, h⟩ := bnd h
        refine W.tr (G1 := [(1, .obj [iR (eM ePair) a0]), (2, .obj [.nils, .nils, .nils]), (3, .obj [oR eI s14.1.Base, oR eI s14.1.Val, oR eI s14.1.Chk]), (4, oR eI x13), (7, I64 x18), (38, .brw eI.z ⟨4, []⟩ x13.length), (39, I64 (x13.length : Int)), (40, I64 s14.2)]) (.n rfl (.n rfl (.n rfl (.n rfl (.n rfl (.r rfl (RK.brw (en := eI) rfl) npBrw (.n rfl (.n rfl .nil)))))))) ?_
        refine W.lp1 (s := s14.1.Base) (fun (s19 : List Int) => [(1, .obj [iR (eM ePair) a0]), (2, .obj [.nils, .nils, .nils]), (3, .obj [oR eI s19, oR eI s14.1.Val, oR eI s14.1.Chk]), (4, oR eI x13), (7, I64 x18), (38, .brw eI.z ⟨4, []⟩ x13.length), (39, I64 (x13.length : Int)), (40, I64 s14.2)]) 4 (fun (x20 : List Int) => [(1, .obj [iR (eM ePair) a0]), (2, .obj [.nils, .nils, .nils]), (3, .obj [oR eI x20, oR eI s14.1.Val, oR eI s14.1.Chk]), (4, oR eI x13), (7, I64 x18), (38, .brw eI.z ⟨4, []⟩ x13.length), (39, I64 (x13.length : Int)), (40, I64 s14.2)]) hl (fun s19 o h => ?_) ?_
        · clear hl
          refine W.sq' ?_
          refine W.sq' ?_
          obtain ⟨x22, hx22, h⟩ := bnd h
          obtain ⟨x23, hx23, h⟩ := bnd h
          obtain ⟨x24, hx24, h⟩ := bnd h
          refine W.rd [[], [0], [], [], [2, 3], [2, 3, 4], [], [6], [], [6, 7, 8], [6, 7, 8, 9], rn 0 11 [], rn 0 12 []] [(1, _), (2, _), (3, _), (4, _), (7, _), (38, .brw eI.z ⟨4, []⟩ x13.length), (39, _), (40, _), (56, _)] mixo (by kernel_rfl) (Dv 0 (O.fO rfl (.obj rfl) fd83_2 rfl) <| Dv 1 (O.ldO (y := .brw eI.z ⟨3, [2]⟩ s14.1.Chk.length) rfl (.ptr rfl) ct33 rfl rfl) <| Dv 2 (O.ldO (y := iR (eM ePair) a0) rfl (.obj rfl) ct78 rfl rfl) <| Dv 3 (O.mv (.lit rfl)) <| Dv 4 (O.ixI (.imm rfl) (.lit rfl) sl78 hx22) <| Dv 5 (O.ldI (x := iR ePair x22) (.iptr rfl) ct53 rfl) <| Dv 6 (O.fO rfl (.obj rfl) fd83_0 rfl) <| Dv 7 (O.ldO (y := .brw eI.z ⟨3, [0]⟩ s19.length) rfl (.ptr rfl) ct33 rfl rfl) <| Dv 8 (O.mv (.lit rfl)) <| Dv 9 (O.ixO (en := eI) rfl (.brw rfl) (.lit rfl) sl33 hx23 rfl) <| Dv 10 (O.ldE (en := eI) (x' := I64 x23) rfl (.ptr rfl) ct3 hx23 rfl rfl) <| Dc 11 (PC.vw (ys := [.brw eI.z ⟨3, [2]⟩ s14.1.Chk.length, iR ePair x22, I64 x23]) rfl (.c (.row rfl) (.s (.s .nil))) (con68 s14.1.Chk x22 x23 _ hx24) call68 rfl) <| Dv 12 (O.not (.lit rfl)) <| DL.fin rfl rfl rfl (.n rfl (.n rfl (.n rfl (.n rfl (.n rfl (.r rfl (RK.brw (en := eI) rfl) npBrw (.n rfl (.n rfl (.n rfl .nil)))))))))) ?_
          refine Px.sq ?_
          refine W.cnd rfl (fun hb25 => ?_) (fun hb25 => ?_)
          · replace h := cndT hb25 h
            refine W.sk ?_
            refine Px.sq ?_
            refine W.bk ?_
            obtain ⟨x26, hx26, h⟩ := bnd h
            refine W.rx [(1, _), (2, _), (3, _), (4, _), (7, _), (38, .brw eI.z ⟨4, []⟩ x13.length), (39, _), (40, _)] (Rv (O.fO rfl (.obj rfl) fd83_0 rfl) <| Rv (O.ldO (y := .brw eI.z ⟨3, [0]⟩ s19.length) rfl (.ptr rfl) ct33 rfl rfl) <| Rv (O.mv (.lit rfl)) <| Rv (O.ixO (en := eI) rfl (.brw rfl) (.lit rfl) sl33 hx26 rfl) <| Rv (O.ldE (en := eI) (x' := I64 x26) rfl (.ptr rfl) ct3 hx26 rfl rfl) <| Rv (O.add (.lit rfl) (.k rfl)) <| Rv (O.ixO (en := eI) rfl (.brw rfl) (.lit rfl) sl33 hx26 rfl) <| RunL.ef (G2 := [(1, .obj [iR (eM ePair) a0]), (2, .obj [.nils, .nils, .nils]), (3, .obj [oR eI (s19.set x18.toNat (w64 (x26 + 1))), oR eI s14.1.Val, oR eI s14.1.Chk]), (4, oR eI x13), (7, I64 x18), (38, .brw eI.z ⟨4, []⟩ x13.length), (39, I64 (x13.length : Int)), (40, I64 s14.2)]) rfl (EO.stE (en := eI) (y2 := w64 (x26 + 1)) (cs' := [I64 (w64 (x26 + 1))]) (x2 := .obj [oR eI (s19.set x18.toNat (w64 (x26 + 1))), oR eI s14.1.Val, oR eI s14.1.Chk]) rfl rfl (.ptr rfl) (.lit rfl) rfl hx26 sz3 rfl rfl rfl rfl rfl rfl rfl (.n rfl rfl (.n rfl rfl (.b rfl (.n rfl rfl (.n rfl rfl (.w (en := eI) rfl rfl rfl rfl (.n rfl rfl (.n rfl rfl .nil))))))))) <| RunL.fin (.n rfl (.n rfl (.n rfl (.n rfl (.n rfl (.r rfl (RK.brw (en := eI) rfl) npBrw (.n rfl (.n rfl .nil))))))))) ?_
            refine Px.bk ?_
            obtain rfl := sm h
            exact Px.go (.n rfl (.n rfl (.n rfl (.n rfl (.n rfl (.r rfl (RK.brw (en := eI) rfl) npBrw (.n rfl (.n rfl .nil))))))))
          · replace h := cndF hb25 h
            refine W.xi ?_
            refine Px.sqE ?_
            obtain rfl := sm h
            exact Px.x1 (.n rfl (.n rfl (.n rfl (.n rfl (.n rfl (.r rfl (RK.brw (en := eI) rfl) npBrw (.n rfl (.n rfl .nil))))))))
        refine Px.bkH ?_
        refine Px.sq ?_
        refine W.sq' ?_
        obtain ⟨x27, hx27, h⟩ := bnd h
        refine W.rx [(1, _), (2, _), (3, _), (4, _), (7, _), (38, .brw eI.z ⟨4, []⟩ x13.length), (39, _), (40, _), (67, _), (68, _), (69, _)] (Rv (O.ldO (y := iR (eM ePair) a0) rfl (.obj rfl) ct78 rfl rfl) <| Rv (O.mv (.lit rfl)) <| Rv (O.ixI (.imm rfl) (.lit rfl) sl78 hx27) <| Rv (O.ldI (x := iR ePair x27) (.iptr rfl) ct53 rfl) <| Rv (O.lenI (.imm rfl) sl53) <| Rv (O.mv (.k rfl)) <| RunL.fin (.n rfl (.n rfl (.n rfl (.n rfl (.n rfl (.r rfl (RK.brw (en := eI) rfl) npBrw (.n rfl (.n rfl (.n rfl (.n rfl (.n rfl .nil)))))))))))) ?_
        refine Px.sq ?_
        refine W.bk ?_
        obtain ⟨x29, hl, h⟩ := bnd h
        refine W.tr (G1 := [(1, .obj [iR (eM ePair) a0]), (2, .obj [.nils, .nils, .nils]), (3, .obj [oR eI x20, oR eI s14.1.Val, oR eI s14.1.Chk]), (4, oR eI x13), (7, I64 x18), (38, .brw eI.z ⟨4, []⟩ x13.length), (39, I64 (x13.length : Int)), (40, I64 s14.2), (67, iR ePair x27), (68, I64 (x27.length : Int)), (69, I64 0)]) (.n rfl (.n rfl (.n rfl (.n rfl (.n rfl (.r rfl (RK.brw (en := eI) rfl) npBrw (.n rfl (.n rfl (.n rfl (.n rfl (.n rfl .nil))))))))))) ?_
        refine W.lp1 (s := (s14.1.Val, s14.1.Chk, 0)) (fun (s28 : List Int × List Int × Int) => [(1, .obj [iR (eM ePair) a0]), (2, .obj [.nils, .nils, .nils]), (3, .obj [oR eI x20, oR eI s28.1, oR eI s28.2.1]), (4, oR eI x13), (7, I64 x18), (38, .brw eI.z ⟨4, []⟩ x13.length), (39, I64 (x13.length : Int)), (40, I64 s14.2), (67, iR ePair x27), (68, I64 (x27.length : Int)), (69, I64 s28.2.2)]) 6 (fun (x29 : List Int × List Int) => [(1, .obj [iR (eM ePair) a0]), (2, .obj [.nils, .nils, .nils]), (3, .obj [oR eI x20, oR eI x29.1, oR eI x29.2]), (4, oR eI x13), (38, .brw eI.z ⟨4, []⟩ x13.length), (39, I64 (x13.length : Int)), (40, I64 s14.2)]) hl (fun s28 o h => ?_) ?_
        · clear hl
          refine W.sq' ?_
          refine W.rx [(1, _), (2, _), (3, _), (4, _), (7, _), (38, .brw eI.z ⟨4, []⟩ x13.length), (39, _), (40, _), (67, _), (68, _), (69, _), (70, _)] (Rv (O.lss (.lit rfl) (.lit rfl)) <| RunL.fin (.n rfl (.n rfl (.n rfl (.n rfl (.n rfl (.r rfl (RK.brw (en := eI) rfl) npBrw (.n rfl (.n rfl (.n rfl (.n rfl (.n rfl (.n rfl .nil))))))))))))) ?_
          refine Px.sq ?_
          refine W.sq' ?_
          refine W.cnd rfl (fun hb31 => ?_) (fun hb31 => ?_)
          · replace h := cndT hb31 h
            refine W.sk ?_
            refine Px.sq ?_
            refine W.sq' ?_
            refine W.bk ?_
            refine W.sq' ?_
            obtain ⟨x32, hx32, h⟩ := bnd h
            refine W.rx [(1, _), (2, _), (3, _), (4, _), (7, _), (9, _), (38, .brw eI.z ⟨4, []⟩ x13.length), (39, _), (40, _), (67, _), (68, _), (69, _)] (Rv (O.ixI (.imm rfl) (.lit rfl) sl53 hx32) <| Rv (O.ldIN (cs' := [I64 x32.At, I64 x32.Val]) (.iptr rfl) at61 rfl rfl) <| Rv (O.al (cs := [I64 0, I64 0]) ze61 rfl rfl) <| RunL.sO (G2 := [(1, .obj [iR (eM ePair) a0]), (2, .obj [.nils, .nils, .nils]), (3, .obj [oR eI x20, oR eI s28.1, oR eI s28.2.1]), (4, oR eI x13), (7, I64 x18), (9, .obj [I64 x32.At, I64 x32.Val]), (38, .brw eI.z ⟨4, []⟩ x13.length), (39, I64 (x13.length : Int)), (40, I64 s14.2), (67, iR ePair x27), (68, I64 (x27.length : Int)), (69, I64 s28.2.2)]) (cs2 := [I64 x32.At, I64 x32.Val]) rfl (.obj rfl) (.aggF rfl rfl) rfl sz61 rfl rfl rfl rfl (.n rfl rfl (.n rfl rfl (.n rfl rfl (.n rfl rfl (.n rfl rfl (.b rfl (.w (en := eI) rfl rfl rfl rfl (.n rfl rfl (.n rfl rfl (.n rfl rfl (.n rfl rfl (.n rfl rfl .nil)))))))))))) <| RunL.fin (.n rfl (.n rfl (.n rfl (.n rfl (.n rfl (.n rfl (.r rfl (RK.brw (en := eI) rfl) npBrw (.n rfl (.n rfl (.n rfl (.n rfl (.n rfl .nil))))))))))))) ?_
            refine Px.sq ?_
            refine W.sq' ?_
            obtain ⟨x33, hx33, h⟩ := bnd h
            refine W.rd [[], [0], [], [0, 1, 2], [0, 1, 2, 3], [], [5], rn 0 7 [], rn 0 8 []] [(1, _), (2, _), (3, _), (4, _), (7, _), (9, _), (10, _), (38, .brw eI.z ⟨4, []⟩ x13.length), (39, _), (40, _), (67, _), (68, _), (69, _)] mixo (by kernel_rfl) (Dv 0 (O.fO rfl (.obj rfl) fd83_0 rfl) <| Dv 1 (O.ldO (y := .brw eI.z ⟨3, [0]⟩ x20.length) rfl (.ptr rfl) ct33 rfl rfl) <| Dv 2 (O.mv (.lit rfl)) <| Dv 3 (O.ixO (en := eI) rfl (.brw rfl) (.lit rfl) sl33 hx33 rfl) <| Dv 4 (O.ldE (en := eI) (x' := I64 x33) rfl (.ptr rfl) ct3 hx33 rfl rfl) <| Dv 5 (O.fO rfl (.obj rfl) fd61_0 rfl) <| Dv 6 (O.ldO (y := I64 x32.At) rfl (.ptr rfl) ct3 rfl rfl) <| Dv 7 (O.add (.lit rfl) (.lit rfl)) <| Dv 8 (O.as (.lit rfl)) <| DL.fin rfl rfl rfl (.n rfl (.n rfl (.n rfl (.n rfl (.n rfl (.n rfl (.n rfl (.r rfl (RK.brw (en := eI) rfl) npBrw (.n rfl (.n rfl (.n rfl (.n rfl (.n rfl .nil)))))))))))))) ?_
            refine Px.sq ?_
            refine W.sq' ?_
            refine W.bk ?_
            obtain ⟨x35, hl, h⟩ := bnd h
            refine W.tr (G1 := [(1, .obj [iR (eM ePair) a0]), (2, .obj [.nils, .nils, .nils]), (3, .obj [oR eI x20, oR eI s28.1, oR eI s28.2.1]), (4, oR eI x13), (7, I64 x18), (9, .obj [I64 x32.At, I64 x32.Val]), (10, I64 (w64 (x33 + x32.At))), (38, .brw eI.z ⟨4, []⟩ x13.length), (39, I64 (x13.length : Int)), (40, I64 s14.2), (67, iR ePair x27), (68, I64 (x27.length : Int)), (69, I64 s28.2.2)]) (.n rfl (.n rfl (.n rfl (.n rfl (.n rfl (.n rfl (.n rfl (.r rfl (RK.brw (en := eI) rfl) npBrw (.n rfl (.n rfl (.n rfl (.n rfl (.n rfl .nil))))))))))))) ?_
            refine W.lp1 (s := (s28.1, s28.2.1)) (fun (s34 : List Int × List Int) => [(1, .obj [iR (eM ePair) a0]), (2, .obj [.nils, .nils, .nils]), (3, .obj [oR eI x20, oR eI s34.1, oR eI s34.2]), (4, oR eI x13), (7, I64 x18), (9, .obj [I64 x32.At, I64 x32.Val]), (10, I64 (w64 (x33 + x32.At))), (38, .brw eI.z ⟨4, []⟩ x13.length), (39, I64 (x13.length : Int)), (40, I64 s14.2), (67, iR ePair x27), (68, I64 (x27.length : Int)), (69, I64 s28.2.2)]) 8 (fun (x35 : List Int × List Int) => [(1, .obj [iR (eM ePair) a0]), (2, .obj [.nils, .nils, .nils]), (3, .obj [oR eI x20, oR eI x35.1, oR eI x35.2]), (4, oR eI x13), (7, I64 x18), (9, .obj [I64 x32.At, I64 x32.Val]), (10, I64 (w64 (x33 + x32.At))), (38, .brw eI.z ⟨4, []⟩ x13.length), (39, I64 (x13.length : Int)), (40, I64 s14.2), (67, iR ePair x27), (68, I64 (x27.length : Int)), (69, I64 s28.2.2)]) hl (fun s34 o h => ?_) ?_
            · clear hl
              refine W.sq' ?_
              refine W.sq' ?_
              refine W.rx [(1, _), (2, _), (3, _), (4, _), (7, _), (9, _), (10, _), (38, .brw eI.z ⟨4, []⟩ x13.length), (39, _), (40, _), (67, _), (68, _), (69, _), (85, _)] (Rv (O.fO rfl (.obj rfl) fd83_2 rfl) <| Rv (O.ldO (y := .brw eI.z ⟨3, [2]⟩ s34.2.length) rfl (.ptr rfl) ct33 rfl rfl) <| Rv (O.lenO (.brw rfl) sl33) <| Rv (O.mv (.lit rfl)) <| Rv (O.leq (.lit rfl) (.lit rfl)) <| RunL.fin (.n rfl (.n rfl (.n rfl (.n rfl (.n rfl (.n rfl (.n rfl (.r rfl (RK.brw (en := eI) rfl) npBrw (.n rfl (.n rfl (.n rfl (.n rfl (.n rfl (.n rfl .nil))))))))))))))) ?_
              refine Px.sq ?_
              refine W.cnd rfl (fun hb37 => ?_) (fun hb37 => ?_)
              · replace h := cndT hb37 h
                refine W.sk ?_
                refine Px.sq ?_
                refine W.bk ?_
                obtain ⟨x38, hx38, h⟩ := bnd h
                obtain ⟨x39, hx39, h⟩ := bnd h
                refine W.rd [[], [0], [], [0, 1, 2], [], [4], [], rn 0 7 [], rn 0 6 [], rn 0 9 [], rn 0 10 [], rn 0 11 []] [(1, _), (2, _), (3, _), (4, _), (7, _), (9, _), (10, _), (38, .brw eI.z ⟨4, []⟩ x13.length), (39, _), (40, _), (67, _), (68, _), (69, _)] mixo (by kernel_rfl) (Dv 0 (O.fO rfl (.obj rfl) fd83_2 rfl) <| Dv 1 (O.ldO (y := .brw eI.z ⟨3, [2]⟩ s34.2.length) rfl (.ptr rfl) ct33 rfl rfl) <| DL.vi 2 (x := iR eI [0]) (O.bs (ys := [I64 0]) eI [0] sl33 rfl rfl rfl rfl rfl rfl zt3 rfl rfl) rfl rfl rfl rfl .none <| Dv 3 (O.ap (en := eI) (r := x38) (.brw rfl) rfl (.imm rfl) .i ap33 rfl hx38) <| Dv 4 (O.fO rfl (.obj rfl) fd83_1 rfl) <| Dv 5 (O.ldO (y := .brw eI.z ⟨3, [1]⟩ s34.1.length) rfl (.ptr rfl) ct33 rfl rfl) <| DL.vi 6 (x := iR eI [0]) (O.bs (ys := [I64 0]) eI [0] sl33 rfl rfl rfl rfl rfl rfl zt3 rfl rfl) rfl rfl rfl rfl .none <| Dv 7 (O.ap' (en := eI) (r := x39) (.brw rfl) rfl (.imm rfl) .i ap33 rfl hx39 (noQ_spec (by kernel_rfl) (by kernel_rfl))) <| Dv 8 (O.fO rfl (.obj rfl) fd83_2 rfl) <| DL.bw 9 (G2 := [(1, .obj [iR (eM ePair) a0]), (2, .obj [.nils, .nils, .nils]), (3, .obj [oR eI x20, .dead, oR eI (s34.2 ++ [0])]), (4, oR eI x13), (7, I64 x18), (9, .obj [I64 x32.At, I64 x32.Val]), (10, I64 (w64 (x33 + x32.At))), (38, .brw eI.z ⟨4, []⟩ x13.length), (39, I64 (x13.length : Int)), (40, I64 s14.2), (67, iR ePair x27), (68, I64 (x27.length : Int)), (69, I64 s28.2.2), (93, oR eI (s34.1 ++ [0]))]) (EffOk.settle (ts := [89, 93]) (xs := [.brw eI.z ⟨89, []⟩ (s34.2.length + [0].length), .brw eI.z ⟨93, []⟩ (s34.1.length + [0].length)]) (ys := [.own eI.z (s34.2.length + [0].length) (rowc eI s34.2 ++ rowc eI [0]), .own eI.z (s34.1.length + [0].length) (rowc eI s34.1 ++ rowc eI [0])]) (g2 := get [(1, .obj [iR (eM ePair) a0]), (2, .obj [.nils, .nils, .nils]), (3, .obj [oR eI x20, .dead, .dead]), (4, oR eI x13), (7, I64 x18), (9, .obj [I64 x32.At, I64 x32.Val]), (10, I64 (w64 (x33 + x32.At))), (38, .brw eI.z ⟨4, []⟩ x13.length), (39, I64 (x13.length : Int)), (40, I64 s14.2), (67, iR ePair x27), (68, I64 (x27.length : Int)), (69, I64 s28.2.2), (89, oR eI (s34.2 ++ [0])), (93, oR eI (s34.1 ++ [0])), (94, .ptr ⟨3, []⟩ 2)]) rfl (TkL.take (.pn rfl rfl rfl .ns (.pn rfl rfl rfl .ns .nil))) (by decide) rfl (all2 rfl rfl) (Trim.keep (.n rfl (.n rfl (.n rfl (.n rfl (.n rfl (.n rfl (.n rfl (.r rfl (RK.brw (en := eI) rfl) npBrw (.n rfl (.n rfl (.n rfl (.n rfl (.n rfl (.e rfl (oR_app _ _ _) (.e rfl (oR_app _ _ _) (.q rfl rfl rfl .nil))))))))))))))))) (EO.eff (EO.stB (y' := oR eI (s34.2 ++ [0])) (cs2 := [oR eI x20, .dead, oR eI (s34.2 ++ [0])]) rfl rfl (.ptr rfl) (.own rfl) (.r rfl .nil) .refl rfl sz33 rfl rfl rfl rfl rfl (.n rfl rfl (.n rfl rfl (.b rfl (.n rfl rfl (.n rfl rfl (.n rfl rfl (.n rfl rfl (.w (en := eI) rfl rfl rfl rfl (.n rfl rfl (.n rfl rfl (.n rfl rfl (.n rfl rfl (.n rfl rfl (.n rfl rfl .nil))))))))))))))))) rfl rfl (by kernel_rfl) rfl rfl (by kernel_rfl) <| Dv 10 (O.fO rfl (.obj rfl) fd83_1 rfl) <| DL.bp 11 (G2 := [(1, .obj [iR (eM ePair) a0]), (2, .obj [.nils, .nils, .nils]), (3, .obj [oR eI x20, oR eI (s34.1 ++ [0]), oR eI (s34.2 ++ [0])]), (4, oR eI x13), (7, I64 x18), (9, .obj [I64 x32.At, I64 x32.Val]), (10, I64 (w64 (x33 + x32.At))), (38, .brw eI.z ⟨4, []⟩ x13.length), (39, I64 (x13.length : Int)), (40, I64 s14.2), (67, iR ePair x27), (68, I64 (x27.length : Int)), (69, I64 s28.2.2)]) (EO.stB (y' := oR eI (s34.1 ++ [0])) (cs2 := [oR eI x20, oR eI (s34.1 ++ [0]), oR eI (s34.2 ++ [0])]) rfl rfl (.ptr rfl) (.own rfl) (.r rfl .nil) .refl rfl sz33 rfl rfl rfl rfl rfl (.n rfl rfl (.n rfl rfl (.b rfl (.n rfl rfl (.n rfl rfl (.n rfl rfl (.n rfl rfl (.w (en := eI) rfl rfl rfl rfl (.n rfl rfl (.n rfl rfl (.n rfl rfl (.n rfl rfl (.n rfl rfl .nil)))))))))))))) rfl rfl rfl rfl (by kernel_rfl) (by kernel_rfl) <| DL.fin rfl rfl rfl (.n rfl (.n rfl (.n rfl (.n rfl (.n rfl (.n rfl (.n rfl (.r rfl (RK.brw (en := eI) rfl) npBrw (.n rfl (.n rfl (.n rfl (.n rfl (.n rfl .nil)))))))))))))) ?_
                refine Px.bk ?_
                obtain rfl := sm h
                exact Px.go (.n rfl (.n rfl (.n rfl (.n rfl (.n rfl (.n rfl (.n rfl (.r rfl (RK.brw (en := eI) rfl) npBrw (.n rfl (.n rfl (.n rfl (.n rfl (.n rfl .nil)))))))))))))
              · replace h := cndF hb37 h
                refine W.xi ?_
                refine Px.sqE ?_
                obtain rfl := sm h
                exact Px.x1 (.n rfl (.n rfl (.n rfl (.n rfl (.n rfl (.n rfl (.n rfl (.r rfl (RK.brw (en := eI) rfl) npBrw (.n rfl (.n rfl (.n rfl (.n rfl (.n rfl .nil)))))))))))))
            refine Px.bkH ?_
            refine Px.sq ?_
            obtain ⟨x40, hx40, h⟩ := bnd h
            obtain ⟨x41, hx41, h⟩ := bnd h
            refine W.rd [[], [0], [], [], [3], [], [], [6], [], [8], [0, 1, 2, 6, 7], [0, 1, 2, 6, 7, 10], rn 0 12 [], rn 0 13 []] [(1, _), (2, _), (3, _), (4, _), (7, _), (38, .brw eI.z ⟨4, []⟩ x13.length), (39, _), (40, _), (67, _), (68, _), (69, _)] mixo (by kernel_rfl) (Dv 0 (O.fO rfl (.obj rfl) fd83_2 rfl) <| Dv 1 (O.ldO (y := .brw eI.z ⟨3, [2]⟩ x35.2.length) rfl (.ptr rfl) ct33 rfl rfl) <| Dv 2 (O.mv (.lit rfl)) <| Dv 3 (O.fO rfl (.obj rfl) fd83_1 rfl) <| Dv 4 (O.ldO (y := .brw eI.z ⟨3, [1]⟩ x35.1.length) rfl (.ptr rfl) ct33 rfl rfl) <| Dv 5 (O.mv (.lit rfl)) <| Dv 6 (O.mv (.lit rfl)) <| Dv 7 (O.add (.lit rfl) (.k rfl)) <| Dv 8 (O.fO rfl (.obj rfl) fd61_1 rfl) <| Dv 9 (O.ldO (y := I64 x32.Val) rfl (.ptr rfl) ct3 rfl rfl) <| Dv 10 (O.ixO (en := eI) rfl (.brw rfl) (.lit rfl) sl33 hx40 rfl) <| DL.bz 11 (G2 := [(1, .obj [iR (eM ePair) a0]), (2, .obj [.nils, .nils, .nils]), (3, .obj [oR eI x20, oR eI x35.1, oR eI (x35.2.set (w64 (x33 + x32.At)).toNat (w64 (x18 + 1)))]), (4, oR eI x13), (7, I64 x18), (9, .obj [I64 x32.At, I64 x32.Val]), (10, I64 (w64 (x33 + x32.At))), (38, .brw eI.z ⟨4, []⟩ x13.length), (39, I64 (x13.length : Int)), (40, I64 s14.2), (67, iR ePair x27), (68, I64 (x27.length : Int)), (69, I64 s28.2.2)]) (U := [(9, 105, some (I64 x32.Val)), (8, 104, some (.ptr ⟨9, []⟩ 1)), (5, 101, some (I64 (w64 (x33 + x32.At)))), (4, 100, some (.brw eI.z ⟨3, [1]⟩ x35.1.length)), (3, 99, some (.ptr ⟨3, []⟩ 1))]) (ps := [⟨3, [1]⟩]) (EffOk.cell (r := 3) (k0 := 1) (y := oR eI x35.1) (g5 := get [(1, .obj [iR (eM ePair) a0]), (2, .obj [.nils, .nils, .nils]), (3, .obj [oR eI x20, oR eI x35.1, oR eI (x35.2.set (w64 (x33 + x32.At)).toNat (w64 (x18 + 1)))]), (4, oR eI x13), (7, I64 x18), (9, .obj [I64 x32.At, I64 x32.Val]), (10, I64 (w64 (x33 + x32.At))), (38, .brw eI.z ⟨4, []⟩ x13.length), (39, I64 (x13.length : Int)), (40, I64 s14.2), (67, iR ePair x27), (68, I64 (x27.length : Int)), (69, I64 s28.2.2)]) rfl rfl NRc.nr (fun v _ => ⟨get [(1, .obj [iR (eM ePair) a0]), (2, .obj [.nils, .nils, .nils]), (3, .obj [oR eI x20, .lit v, oR eI x35.2]), (4, oR eI x13), (7, I64 x18), (9, .obj [I64 x32.At, I64 x32.Val]), (10, I64 (w64 (x33 + x32.At))), (38, .brw eI.z ⟨4, []⟩ x13.length), (39, I64 (x13.length : Int)), (40, I64 s14.2), (67, iR ePair x27), (68, I64 (x27.length : Int)), (69, I64 s28.2.2), (103, I64 (w64 (x18 + 1))), (106, .ptr ⟨3, [2]⟩ ((w64 (x33 + x32.At)).toNat * eI.z + 0))], get [(1, .obj [iR (eM ePair) a0]), (2, .obj [.nils, .nils, .nils]), (3, .obj [oR eI x20, .lit v, oR eI (x35.2.set (w64 (x33 + x32.At)).toNat (w64 (x18 + 1)))]), (4, oR eI x13), (7, I64 x18), (9, .obj [I64 x32.At, I64 x32.Val]), (10, I64 (w64 (x33 + x32.At))), (38, .brw eI.z ⟨4, []⟩ x13.length), (39, I64 (x13.length : Int)), (40, I64 s14.2), (67, iR ePair x27), (68, I64 (x27.length : Int)), (69, I64 s28.2.2)], Trim.keep (.n rfl (.n rfl (.n rfl (.n rfl (.n rfl (.n rfl (.n rfl (.r rfl (RK.brw (en := eI) rfl) npBrw (.n rfl (.n rfl (.n rfl (.n rfl (.n rfl (.n rfl (.r rfl (RK.el (en := eI) rfl hx40 rfl) npPtr .nil))))))))))))))), EO.eff (EO.stE (en := eI) (y2 := w64 (x18 + 1)) (cs' := [I64 (w64 (x18 + 1))]) (x2 := .obj [oR eI x20, .lit v, oR eI (x35.2.set (w64 (x33 + x32.At)).toNat (w64 (x18 + 1)))]) rfl rfl (.ptr rfl) (.lit rfl) rfl hx40 sz3 rfl rfl rfl rfl rfl rfl rfl (.n rfl rfl (.n rfl rfl (.b rfl (.n rfl rfl (.n rfl rfl (.n rfl rfl (.n rfl rfl (.w (en := eI) rfl rfl rfl rfl (.n rfl rfl (.n rfl rfl (.n rfl rfl (.n rfl rfl (.n rfl rfl .nil)))))))))))))), rfl, Trim.keep (.n rfl (.n rfl (.n rfl (.n rfl (.n rfl (.n rfl (.n rfl (.r rfl (RK.brw (en := eI) rfl) npBrw (.n rfl (.n rfl (.n rfl (.n rfl (.n rfl .nil)))))))))))))⟩)) rfl rfl (by kernel_rfl) rfl rfl rfl (.c (.inr (.inl ⟨_, rfl⟩)) rfl rfl rfl rfl rfl (Gd.wanted .none) (O.ldO (y := I64 x32.Val) rfl (.ptr rfl) ct3 rfl rfl) (.c (.inr (.inr (.inr ⟨9, _, _, rfl, rfl, of_blt rfl, by simp⟩))) rfl rfl rfl rfl rfl (Gd.wanted .none) (O.fO rfl (.obj rfl) fd61_1 rfl) (.c (.inr (.inl ⟨_, rfl⟩)) rfl rfl rfl rfl rfl (Gd.wanted .none) (O.mv (.lit rfl)) (.c (.inl ⟨3, [1], _, _, _, _, rfl, by simp, rfl, rfl, Nat.le_refl _⟩) rfl rfl rfl rfl rfl (Gd.wanted .none) (O.ldO (y := .brw eI.z ⟨3, [1]⟩ x35.1.length) rfl (.ptr rfl) ct33 rfl rfl) (.c (.inr (.inr (.inr ⟨3, _, _, rfl, rfl, of_blt rfl, by simp⟩))) rfl rfl rfl rfl rfl (Gd.wanted .none) (O.fO rfl (.obj rfl) fd83_1 rfl) .nil))))) (by kernel_rfl) <| Dv 12 (O.ixO (en := eI) rfl (.brw rfl) (.lit rfl) sl33 hx41 rfl) <| DL.bp 13 (G2 := [(1, .obj [iR (eM ePair) a0]), (2, .obj [.nils, .nils, .nils]), (3, .obj [oR eI x20, oR eI (x35.1.set (w64 (x33 + x32.At)).toNat x32.Val), oR eI (x35.2.set (w64 (x33 + x32.At)).toNat (w64 (x18 + 1)))]), (4, oR eI x13), (7, I64 x18), (38, .brw eI.z ⟨4, []⟩ x13.length), (39, I64 (x13.length : Int)), (40, I64 s14.2), (67, iR ePair x27), (68, I64 (x27.length : Int)), (69, I64 s28.2.2)]) (EO.stE (en := eI) (y2 := x32.Val) (cs' := [I64 x32.Val]) (x2 := .obj [oR eI x20, oR eI (x35.1.set (w64 (x33 + x32.At)).toNat x32.Val), oR eI (x35.2.set (w64 (x33 + x32.At)).toNat (w64 (x18 + 1)))]) rfl rfl (.ptr rfl) (.lit rfl) rfl hx41 sz3 rfl rfl rfl rfl rfl rfl rfl (.n rfl rfl (.n rfl rfl (.b rfl (.n rfl rfl (.n rfl rfl (.w (en := eI) rfl rfl rfl rfl (.n rfl rfl (.n rfl rfl (.n rfl rfl (.n rfl rfl (.n rfl rfl .nil)))))))))))) rfl rfl rfl rfl (by kernel_rfl) (by kernel_rfl) <| DL.fin rfl rfl rfl (.n rfl (.n rfl (.n rfl (.n rfl (.n rfl (.r rfl (RK.brw (en := eI) rfl) npBrw (.n rfl (.n rfl (.n rfl (.n rfl (.n rfl .nil)))))))))))) ?_
            refine Px.bk ?_
            refine Px.sq ?_
            refine W.rx [(1, _), (2, _), (3, _), (4, _), (7, _), (38, .brw eI.z ⟨4, []⟩ x13.length), (39, _), (40, _), (67, _), (68, _), (69, _)] (Rv (O.add (.lit rfl) (.k rfl)) <| RunL.re (G1 := [(1, .obj [iR (eM ePair) a0]), (2, .obj [.nils, .nils, .nils]), (3, .obj [oR eI x20, oR eI (x35.1.set (w64 (x33 + x32.At)).toNat x32.Val), oR eI (x35.2.set (w64 (x33 + x32.At)).toNat (w64 (x18 + 1)))]), (4, oR eI x13), (7, I64 x18), (38, .brw eI.z ⟨4, []⟩ x13.length), (39, I64 (x13.length : Int)), (40, I64 s14.2), (67, iR ePair x27), (68, I64 (x27.length : Int)), (108, I64 (w64 (s28.2.2 + 1)))]) (.n rfl (.n rfl (.n rfl (.n rfl (.n rfl (.r rfl (RK.brw (en := eI) rfl) npBrw (.n rfl (.n rfl (.n rfl (.n rfl (.n rfl .nil))))))))))) <| Rv (O.mv (.lit rfl)) <| RunL.fin (.n rfl (.n rfl (.n rfl (.n rfl (.n rfl (.r rfl (RK.brw (en := eI) rfl) npBrw (.n rfl (.n rfl (.n rfl (.n rfl (.n rfl .nil)))))))))))) ?_
            obtain rfl := sm h
            exact Px.go (.n rfl (.n rfl (.n rfl (.n rfl (.n rfl (.r rfl (RK.brw (en := eI) rfl) npBrw (.n rfl (.n rfl (.n rfl (.n rfl (.n rfl .nil)))))))))))
          · replace h := cndF hb31 h
            refine W.xi ?_
            refine Px.sqE ?_
            obtain rfl := sm h
            exact Px.x1 (.n rfl (.n rfl (.n rfl (.n rfl (.r rfl (RK.brw (en := eI) rfl) npBrw (.n rfl (.n rfl .nil)))))))
        refine Px.bkH ?_
        refine Px.bk ?_
        refine Px.sq ?_
        refine W.rx [(1, _), (2, _), (3, _), (4, _), (38, .brw eI.z ⟨4, []⟩ x13.length), (39, _), (40, _)] (Rv (O.add (.lit rfl) (.k rfl)) <| RunL.re (G1 := [(1, .obj [iR (eM ePair) a0]), (2, .obj [.nils, .nils, .nils]), (3, .obj [oR eI x20, oR eI x29.1, oR eI x29.2]), (4, oR eI x13), (38, .brw eI.z ⟨4, []⟩ x13.length), (39, I64 (x13.length : Int)), (109, I64 (w64 (s14.2 + 1)))]) (.n rfl (.n rfl (.n rfl (.n rfl (.r rfl (RK.brw (en := eI) rfl) npBrw (.n rfl (.n rfl .nil))))))) <| Rv (O.mv (.lit rfl)) <| RunL.fin (.n rfl (.n rfl (.n rfl (.n rfl (.r rfl (RK.brw (en := eI) rfl) npBrw (.n rfl (.n rfl .nil)))))))) ?_
        obtain rfl := sm h
        exact Px.go (.n rfl (.n rfl (.n rfl (.n rfl (.r rfl (RK.brw (en := eI) rfl) npBrw (.n rfl (.n rfl .nil)))))))
      · replace h := cndF hb17 h
        refine W.xi ?_
        refine Px.sqE ?_
        obtain rfl := sm h
        exact Px.x1 (.n rfl (.n rfl .nil))
    refine Px.bkH ?_
    refine Px.sq ?_
    refine W.sq' ?_
    refine W.fz (G1 := [(2, .obj [.nils, .nils, .nils]), (3, .obj [iR eI x15.Base, iR eI x15.Val, iR eI x15.Chk])]) [3] (.n rfl rfl (.z rfl rfl (FzL.obj (.z (.z (.z .nil)))) .nil)) ?_
    refine W.rx [(2, _)] (Rv (O.ldON (cs' := [iR eI x15.Base, iR eI x15.Val, iR eI x15.Chk]) rfl (.obj rfl) at83 rfl rfl) <| RunL.sO (G2 := [(2, .obj [iR eI x15.Base, iR eI x15.Val, iR eI x15.Chk])]) (cs2 := [iR eI x15.Base, iR eI x15.Val, iR eI x15.Chk]) rfl (.obj rfl) (.aggF rfl rfl) rfl sz83 rfl rfl rfl rfl (.b rfl .nil) <| RunL.fin (.n rfl .nil)) ?_
    refine Px.sq ?_
    refine W.rt ?_
    obtain rfl := sm h
    exact Px.fin (Fin.ro (.c (ys0 := [iR eI x15.Base, iR eI x15.Val, iR eI x15.Chk]) rfl at83 rfl rfl rfl (.f rfl (.f rfl (.f rfl .nil))) .nil) rfl (of_decide_eq_true (by kernel_rfl)) (.no .nil) rfl (.inr rfl))
def pf44 (a0 : Comb) (a1 : Int) (a2 : Int) : Option (Int × Bool) :=
 ((bif decide (a1 < 0) then some true else (bif decide ((a0.Base.length : Int) ≤ a1) then some true else (bif decide (a2 < 0) then some true else some (decide ((a0.Chk.length : Int) ≤ a2)))))).bind fun c4 =>
 (bif c4 then
 some (0, false)
 else
 (idx a0.Base a1).bind fun x6 =>
 ((bif decide ((a0.Chk.length : Int) ≤ w64 (x6 + a2)) then some true else ((idx a0.Chk (w64 (x6 + a2))).bind fun x8 => some (!decide (x8 = w64 (a1 + 1)))))).bind fun c9 =>
 (bif c9 then
 some (0, false)
 else
 (idx a0.Val (w64 (x6 + a2))).bind fun x11 =>
 some (x11, true)))
theorem con44 (a0 : Comb) (a1 : Int) (a2 : Int) (r : Int × Bool) (h : pf44 a0 a1 a2 = some r) : Con Try.prog 44 [.agg [iR eI a0.Base, iR eI a0.Val, iR eI a0.Chk], I64 a1, I64 a2] [none, none, none] (.tup [I64 r.1, BB r.2]) := by
  unfold pf44 at h
  refine Con.go (N := ⟨56, []⟩) Try.func44 rfl rfl rfl rfl (W.fin ?_)
  refine W.st [(0, .agg [iR eI a0.Base, iR eI a0.Val, iR eI a0.Chk]), (1, I64 a1), (2, I64 a2)] ?_
  refine W.sq' ?_
  refine W.rx [(1, _), (2, _), (3, _)] (Rv (O.box (.aggF rfl rfl) rfl) <| Rv (O.as (.k rfl)) <| Rv (O.as (.k rfl)) <| RunL.fin (.n rfl (.n rfl (.n rfl .nil)))) ?_
  refine Px.sq ?_
  refine W.sq' ?_
  refine W.sq' ?_
  obtain ⟨c4, hj, h⟩ := bnd h
  refine W.rx [(1, I64 a1), (2, I64 a2), (3, .obj [iR eI a0.Base, iR eI a0.Val, iR eI a0.Chk]), (28, BB c4)] ?_ ?_
  · refine Rv (O.mv (.lit rfl)) <| Rv (O.lss (.lit rfl) (.k rfl)) <| Rv (O.mv (.lit rfl)) ?_
    rcases cnd hj with ⟨hb1, hj⟩ | ⟨hb1, hj⟩
    · obtain rfl := sm hj
      exact RunL.ps rfl rfl hb1 rfl rfl <| RunL.ps rfl rfl hb1 rfl rfl <| RunL.ps rfl rfl hb1 rfl rfl <| RunL.ps rfl rfl hb1 rfl rfl <| RunL.ps rfl rfl hb1 rfl rfl <| Rv (O.pkT (.lit rfl) hb1 (.k rfl)) <| Rv (O.mv (.lit rfl)) <| RunL.ps rfl rfl rfl rfl rfl <| RunL.ps rfl rfl rfl rfl rfl <| Rv (O.pkT (.lit rfl) rfl (.k rfl)) <| Rv (O.mv (.lit rfl)) <| RunL.ps rfl rfl rfl rfl rfl <| RunL.ps rfl rfl rfl rfl rfl <| RunL.ps rfl rfl rfl rfl rfl <| RunL.ps rfl rfl rfl rfl rfl <| RunL.ps rfl rfl rfl rfl rfl <| Rv (O.pkT (.lit rfl) rfl (.k rfl)) <| RunL.fin (.n rfl (.n rfl (.n rfl (.n rfl .nil))))
    · refine RunL.v (O.mv (.lit rfl)) rfl rfl (.yb rfl rfl hb1) <| RunL.v (O.fO rfl (.obj rfl) fd83_0 rfl) rfl rfl (.yb rfl rfl hb1) <| RunL.v (O.ldO (y := iR eI a0.Base) rfl (.ptr rfl) ct33 rfl rfl) rfl rfl (.yb rfl rfl hb1) <| RunL.v (O.lenI (.imm rfl) sl33) rfl rfl (.yb rfl rfl hb1) <| RunL.v (O.geq (.lit rfl) (.lit rfl)) rfl rfl (.yb rfl rfl hb1) <| Rv (O.pkF (.lit rfl) hb1 (.lit rfl)) <| Rv (O.mv (.lit rfl)) ?_
      rcases cnd hj with ⟨hb2, hj⟩ | ⟨hb2, hj⟩
      · obtain rfl := sm hj
        exact RunL.ps rfl rfl hb2 rfl rfl <| RunL.ps rfl rfl hb2 rfl rfl <| Rv (O.pkT (.lit rfl) hb2 (.k rfl)) <| Rv (O.mv (.lit rfl)) <| RunL.ps rfl rfl rfl rfl rfl <| RunL.ps rfl rfl rfl rfl rfl <| RunL.ps rfl rfl rfl rfl rfl <| RunL.ps rfl rfl rfl rfl rfl <| RunL.ps rfl rfl rfl rfl rfl <| Rv (O.pkT (.lit rfl) rfl (.k rfl)) <| RunL.fin (.n rfl (.n rfl (.n rfl (.n rfl .nil))))
      · refine RunL.v (O.mv (.lit rfl)) rfl rfl (.yb rfl rfl hb2) <| RunL.v (O.lss (.lit rfl) (.k rfl)) rfl rfl (.yb rfl rfl hb2) <| Rv (O.pkF (.lit rfl) hb2 (.lit rfl)) <| Rv (O.mv (.lit rfl)) ?_
        rcases cnd hj with ⟨hb3, hj⟩ | ⟨hb3, hj⟩
        · obtain rfl := sm hj
          exact RunL.ps rfl rfl hb3 rfl rfl <| RunL.ps rfl rfl hb3 rfl rfl <| RunL.ps rfl rfl hb3 rfl rfl <| RunL.ps rfl rfl hb3 rfl rfl <| RunL.ps rfl rfl hb3 rfl rfl <| Rv (O.pkT (.lit rfl) hb3 (.k rfl)) <| RunL.fin (.n rfl (.n rfl (.n rfl (.n rfl .nil))))
        · obtain rfl := sm hj
          exact RunL.v (O.mv (.lit rfl)) rfl rfl (.yb rfl rfl hb3) <| RunL.v (O.fO rfl (.obj rfl) fd83_2 rfl) rfl rfl (.yb rfl rfl hb3) <| RunL.v (O.ldO (y := iR eI a0.Chk) rfl (.ptr rfl) ct33 rfl rfl) rfl rfl (.yb rfl rfl hb3) <| RunL.v (O.lenI (.imm rfl) sl33) rfl rfl (.yb rfl rfl hb3) <| RunL.v (O.geq (.lit rfl) (.lit rfl)) rfl rfl (.yb rfl rfl hb3) <| Rv (O.pkF (.lit rfl) hb3 (.lit rfl)) <| RunL.fin (.n rfl (.n rfl (.n rfl (.n rfl .nil))))
  refine Px.sq ?_
  refine W.cnd rfl (fun hb5 => ?_) (fun hb5 => ?_)
  · replace h := cndT hb5 h
    refine W.sq' ?_
    refine W.rx [(6, _), (7, _)] (Rv (O.as (.k rfl)) <| Rv (O.as (.k rfl)) <| RunL.fin (.n rfl (.n rfl .nil))) ?_
    refine Px.sq ?_
    refine W.rt ?_
    refine Px.sqR ?_
    obtain rfl := sm h
    exact Px.fin (Fin.ro (.f rfl rfl (.f rfl rfl .nil)) rfl (of_decide_eq_true (by kernel_rfl)) (.no (.no (.no .nil))) rfl (.inr rfl))
  · replace h := cndF hb5 h
    refine W.sk ?_
    refine Px.sq ?_
    refine W.sq' ?_
    obtain ⟨x6, hx6, h⟩ := bnd h
    refine W.rx [(1, _), (3, _), (8, _)] (Rv (O.fO rfl (.obj rfl) fd83_0 rfl) <| Rv (O.ldO (y := iR eI a0.Base) rfl (.ptr rfl) ct33 rfl rfl) <| Rv (O.mv (.lit rfl)) <| Rv (O.ixI (.imm rfl) (.lit rfl) sl33 hx6) <| Rv (O.ldI (x := I64 x6) (.iptr rfl) ct3 rfl) <| Rv (O.mv (.lit rfl)) <| Rv (O.add (.lit rfl) (.lit rfl)) <| Rv (O.as (.lit rfl)) <| RunL.fin (.n rfl (.n rfl (.n rfl .nil)))) ?_
    refine Px.sq ?_
    refine W.sq' ?_
    refine W.sq' ?_
    obtain ⟨c9, hj, h⟩ := bnd h
    refine W.rx [(3, .obj [iR eI a0.Base, iR eI a0.Val, iR eI a0.Chk]), (8, I64 (w64 (x6 + a2))), (50, BB c9)] ?_ ?_
    · refine Rv (O.mv (.lit rfl)) <| Rv (O.fO rfl (.obj rfl) fd83_2 rfl) <| Rv (O.ldO (y := iR eI a0.Chk) rfl (.ptr rfl) ct33 rfl rfl) <| Rv (O.lenI (.imm rfl) sl33) <| Rv (O.geq (.lit rfl) (.lit rfl)) <| Rv (O.mv (.lit rfl)) ?_
      rcases cnd hj with ⟨hb7, hj⟩ | ⟨hb7, hj⟩
      · obtain rfl := sm hj
        exact RunL.ps rfl rfl hb7 rfl rfl <| RunL.ps rfl rfl hb7 rfl rfl <| RunL.ps rfl rfl hb7 rfl rfl <| RunL.ps rfl rfl hb7 rfl rfl <| RunL.ps rfl rfl hb7 rfl rfl <| RunL.ps rfl rfl hb7 rfl rfl <| RunL.ps rfl rfl hb7 rfl rfl <| RunL.ps rfl rfl hb7 rfl rfl <| Rv (O.pkT (.lit rfl) hb7 (.k rfl)) <| RunL.fin (.n rfl (.n rfl (.n rfl .nil)))
      · refine RunL.v (O.fO rfl (.obj rfl) fd83_2 rfl) rfl rfl (.yb rfl rfl hb7) <| RunL.v (O.ldO (y := iR eI a0.Chk) rfl (.ptr rfl) ct33 rfl rfl) rfl rfl (.yb rfl rfl hb7) <| RunL.v (O.mv (.lit rfl)) rfl rfl (.yb rfl rfl hb7) ?_
        obtain ⟨x8, hx8, hj⟩ := bnd hj
        obtain rfl := sm hj
        exact RunL.v (O.ixI (.imm rfl) (.lit rfl) sl33 hx8) rfl rfl (.yb rfl rfl hb7) <| RunL.v (O.ldI (x := I64 x8) (.iptr rfl) ct3 rfl) rfl rfl (.yb rfl rfl hb7) <| RunL.v (O.mv (.lit rfl)) rfl rfl (.yb rfl rfl hb7) <| RunL.v (O.add (.lit rfl) (.k rfl)) rfl rfl (.yb rfl rfl hb7) <| RunL.v (O.neq (.lit rfl) (.lit rfl)) rfl rfl (.yb rfl rfl hb7) <| Rv (O.pkF (.lit rfl) hb7 (.lit rfl)) <| RunL.fin (.n rfl (.n rfl (.n rfl .nil)))
    refine Px.sq ?_
    refine W.cnd rfl (fun hb10 => ?_) (fun hb10 => ?_)
    · replace h := cndT hb10 h
      refine W.sq' ?_
      refine W.rx [(6, _), (7, _)] (Rv (O.as (.k rfl)) <| Rv (O.as (.k rfl)) <| RunL.fin (.n rfl (.n rfl .nil))) ?_
      refine Px.sq ?_
      refine W.rt ?_
      refine Px.sqR ?_
      obtain rfl := sm h
      exact Px.fin (Fin.ro (.f rfl rfl (.f rfl rfl .nil)) rfl (of_decide_eq_true (by kernel_rfl)) (.no (.no (.no .nil))) rfl (.inr rfl))
    · replace h := cndF hb10 h
      refine W.sk ?_
      refine Px.sq ?_
      refine W.sq' ?_
      obtain ⟨x11, hx11, h⟩ := bnd h
      refine W.rx [(6, _), (7, _)] (Rv (O.fO rfl (.obj rfl) fd83_1 rfl) <| Rv (O.ldO (y := iR eI a0.Val) rfl (.ptr rfl) ct33 rfl rfl) <| Rv (O.mv (.lit rfl)) <| Rv (O.ixI (.imm rfl) (.lit rfl) sl33 hx11) <| Rv (O.ldI (x := I64 x11) (.iptr rfl) ct3 rfl) <| Rv (O.as (.lit rfl)) <| Rv (O.as (.k rfl)) <| RunL.fin (.n rfl (.n rfl .nil))) ?_
      refine Px.sq ?_
      refine W.rt ?_
      obtain rfl := sm h
      exact Px.fin (Fin.ro (.f rfl rfl (.f rfl rfl .nil)) rfl (of_decide_eq_true (by kernel_rfl)) (.no (.no (.no .nil))) rfl (.inr rfl))
def pf30 (a0 : Int) (a1 : Int) : Option (Int) :=
 (remO a0 a1).bind fun x1 =>
 ((bif decide (x1 < 0) then
 some (w64 (x1 + a1))
 else
 some x1)).bind fun j2 =>
 some j2
theorem con30 (a0 : Int) (a1 : Int) (r : Int) (h : pf30 a0 a1 = some r) : Con Try.prog 30 [I64 a0, I64 a1] [none, none] (I64 r) := by
  unfold pf30 at h
  refine Con.go (N := ⟨15, []⟩) Try.func30 rfl rfl rfl rfl (W.fin ?_)
  refine W.st [(0, I64 a0), (1, I64 a1)] ?_
  refine W.sq' ?_
  refine W.rx [(0, _), (1, _)] (Rv (O.as (.k rfl)) <| RunL.fin (.n rfl (.n rfl .nil))) ?_
  refine Px.sq ?_
  refine W.sq' ?_
  obtain ⟨x1, hx1, h⟩ := bnd h
  refine W.rx [(1, _), (5, _)] (Rv (O.mv (.lit rfl)) <| Rv (O.mv (.lit rfl)) <| Rv (O.rem (.lit rfl) (.lit rfl) hx1) <| Rv (O.as (.lit rfl)) <| RunL.fin (.n rfl (.n rfl .nil))) ?_
  refine Px.sq ?_
  refine W.sq' ?_
  refine W.sq' ?_
  refine W.rx [(1, _), (5, _), (10, _)] (Rv (O.mv (.lit rfl)) <| Rv (O.lss (.lit rfl) (.k rfl)) <| RunL.fin (.n rfl (.n rfl (.n rfl .nil)))) ?_
  refine Px.sq ?_
  obtain ⟨j2, hj, h⟩ := bnd h
  refine W.jn [(5, I64 j2)] ?_ ?_
  · clear h; have h := hj; clear hj
    refine W.cnd rfl (fun hb3 => ?_) (fun hb3 => ?_)
    · replace h := cndT hb3 h
      refine W.rx [(5, _)] (Rv (O.mv (.lit rfl)) <| Rv (O.mv (.lit rfl)) <| Rv (O.add (.lit rfl) (.lit rfl)) <| RunL.re (G1 := [(13, I64 (w64 (x1 + a1)))]) (.n rfl .nil) <| Rv (O.as (.lit rfl)) <| RunL.fin (.n rfl .nil)) ?_
      obtain rfl := sm h
      exact Px.jn (.n rfl .nil)
    · replace h := cndF hb3 h
      refine W.sk ?_
      obtain rfl := sm h
      exact Px.jn (.n rfl .nil)
  refine Px.sq ?_
  refine W.sq' ?_
  refine W.rx [(4, _)] (Rv (O.mv (.lit rfl)) <| Rv (O.as (.lit rfl)) <| RunL.fin (.n rfl .nil)) ?_
  refine Px.sq ?_
  refine W.rt ?_
  obtain rfl := sm h
  exact Px.fin (Fin.ro (.f rfl rfl .nil) rfl (of_decide_eq_true (by kernel_rfl)) (.no (.no .nil)) rfl (.inr rfl))
def pf35 (a0 : (List Int)) (a1 : Int) : Option (Bool) :=
 (loopM (R := (Unit) ⊕ (Bool)) (fun (s1 : Int) =>
 (bif decide (s1 < (a0.length : Int)) then
 (idx a0 s1).bind fun x6 =>
 (bif decide (x6 = a1) then
 some (.inr (.inr true))
 else
 some (.inl (w64 (s1 + 1))))
 else
 some (.inr (.inl ())))) 0).bind fun x2 =>
 (match x2 with
 | .inl x3 =>
 some false
 | .inr x4 =>
 some x4)
theorem con35 (a0 : (List Int)) (a1 : Int) (r : Bool) (h : pf35 a0 a1 = some r) : Con Try.prog 35 [iR eI a0, I64 a1] [none, none] (BB r) := by
  unfold pf35 at h
  refine Con.go (N := ⟨18, []⟩) Try.func35 rfl rfl rfl rfl (W.fin ?_)
  refine W.st [(0, iR eI a0), (1, I64 a1)] ?_
  refine W.sq' ?_
  refine W.rx [(0, _), (1, _)] (Rv (O.as (.k rfl)) <| RunL.fin (.n rfl (.n rfl .nil))) ?_
  refine Px.sq ?_
  refine W.sq' ?_
  refine W.sq' ?_
  refine W.rx [(0, _), (1, _), (5, _)] (Rv (O.as (.k rfl)) <| RunL.fin (.n rfl (.n rfl (.n rfl .nil)))) ?_
  refine Px.sq ?_
  refine W.bk ?_
  obtain ⟨x2, hl, h⟩ := bnd h
  refine W.tr (G1 := [(0, iR eI a0), (1, I64 a1), (5, I64 0)]) (.n rfl (.n rfl (.n rfl .nil))) ?_
  refine W.lp2 (s := 0) (fun (s1 : Int) => [(0, iR eI a0), (1, I64 a1), (5, I64 s1)]) 0 (fun (x3 : Unit) => []) (fun (x4 : Bool) => [(4, BB x4)]) hl (fun s1 o h => ?_) (fun x3 hx => ?_) (fun x4 hx => ?_)
  · clear hl
    refine W.sq' ?_
    refine W.sq' ?_
    refine W.rx [(0, _), (1, _), (5, _), (9, _)] (Rv (O.mv (.lit rfl)) <| Rv (O.mv (.imm rfl)) <| Rv (O.lenI (.imm rfl) sl33) <| Rv (O.lss (.lit rfl) (.lit rfl)) <| RunL.fin (.n rfl (.n rfl (.n rfl (.n rfl .nil))))) ?_
    refine Px.sq ?_
    refine W.cnd rfl (fun hb5 => ?_) (fun hb5 => ?_)
    · replace h := cndT hb5 h
      refine W.sk ?_
      refine Px.sq ?_
      refine W.sq' ?_
      refine W.bk ?_
      refine W.sq' ?_
      obtain ⟨x6, hx6, h⟩ := bnd h
      refine W.rx [(0, _), (1, _), (5, _), (17, _)] (Rv (O.mv (.imm rfl)) <| Rv (O.mv (.lit rfl)) <| Rv (O.ixI (.imm rfl) (.lit rfl) sl33 hx6) <| Rv (O.ldI (x := I64 x6) (.iptr rfl) ct3 rfl) <| Rv (O.mv (.lit rfl)) <| Rv (O.eql (.lit rfl) (.lit rfl)) <| RunL.fin (.n rfl (.n rfl (.n rfl (.n rfl .nil))))) ?_
      refine Px.sq ?_
      refine W.cnd rfl (fun hb7 => ?_) (fun hb7 => ?_)
      · replace h := cndT hb7 h
        refine W.sq' ?_
        refine W.rx [(4, _)] (Rv (O.as (.k rfl)) <| RunL.fin (.n rfl .nil)) ?_
        refine Px.sq ?_
        refine W.rt ?_
        refine Px.bkR ?_
        refine Px.sqR ?_
        obtain rfl := sm h
        exact Px.r2 (.n rfl .nil)
      · replace h := cndF hb7 h
        refine W.sk ?_
        refine Px.bk ?_
        refine Px.sq ?_
        refine W.rx [(0, _), (1, _), (5, _)] (Rv (O.mv (.lit rfl)) <| Rv (O.add (.lit rfl) (.k rfl)) <| RunL.re (G1 := [(0, iR eI a0), (1, I64 a1), (11, I64 (w64 (s1 + 1)))]) (.n rfl (.n rfl (.n rfl .nil))) <| Rv (O.as (.lit rfl)) <| RunL.fin (.n rfl (.n rfl (.n rfl .nil)))) ?_
        obtain rfl := sm h
        exact Px.go (.n rfl (.n rfl (.n rfl .nil)))
    · replace h := cndF hb5 h
      refine W.xi ?_
      refine Px.sqE ?_
      obtain rfl := sm h
      exact Px.x2 .nil
  · subst hx
    refine Px.bkH ?_
    refine Px.sq ?_
    refine W.sq' ?_
    refine W.rx [(4, _)] (Rv (O.as (.k rfl)) <| RunL.fin (.n rfl .nil)) ?_
    refine Px.sq ?_
    refine W.rt ?_
    obtain rfl := sm h
    exact Px.fin (Fin.ro (.f rfl rfl .nil) rfl (of_decide_eq_true (by kernel_rfl)) (.no (.no .nil)) rfl (.inr rfl))
  · subst hx
    refine Px.bkR ?_
    refine Px.sqR ?_
    obtain rfl := sm h
    exact Px.fin (Fin.ro (.f rfl rfl .nil) rfl (of_decide_eq_true (by kernel_rfl)) (.no (.no .nil)) rfl (.inr rfl))
def pf38 (a0 : (List (List Int))) (a1 : Int) : Option ((List (List Pair))) :=
 (pf30 a1 60).bind fun x1 =>
 (loopM (R := List (List Pair)) (fun (s2 : List (List Pair) × Int) =>
 ((bif decide (s2.2 < (a0.length : Int)) then some (decide (s2.2 < 14)) else some false)).bind fun c6 =>
 (bif c6 then
 (loopM (R := List Pair) (fun (s8 : List Pair × List Int × Int) =>
 (((idx a0 s2.2).bind fun x11 => (bif decide (s8.2.2 < (x11.length : Int)) then some (decide (s8.2.2 < 12)) else some false))).bind fun c13 =>
 (bif c13 then
 ((idx a0 s2.2).bind fun x16 =>
 (idx x16 s8.2.2).bind fun x17 =>
 (pf30 x17 (w64 (1 + x1))).bind fun x18 =>
 (pf35 s8.2.1 x18).bind fun x19 =>
 ((bif !x19 then
 (appO s8.2.1 [x18]).bind fun x22 =>
 (idx a0 s2.2).bind fun x23 =>
 (idx x23 s8.2.2).bind fun x24 =>
 (appO s8.1 [(⟨x18, x24⟩ : Pair)]).bind fun x25 =>
 some (s8.1 ++ [(⟨x18, x24⟩ : Pair)], s8.2.1 ++ [x18])
 else
 some (s8.1, s8.2.1))).bind fun j20 =>
 some (j20.1, j20.2)).bind fun j15 =>
 some (.inl (j15.1, j15.2, w64 (s8.2.2 + 1)))
 else
 some (.inr s8.1))) (([] : List Pair), ([] : List Int), 0)).bind fun x9 =>
 (appO s2.1 [x9]).bind fun x26 =>
 some (.inl (s2.1 ++ [x9], w64 (s2.2 + 1)))
 else
 some (.inr s2.1))) (([] : List (List Pair)), 0)).bind fun x3 =>
 some x3
theorem con38 (a0 : (List (List Int))) (a1 : Int) (r : (List (List Pair))) (h : pf38 a0 a1 = some r) : Con Try.prog 38 [iR (eM eI) a0, I64 a1] [none, none] (iR (eM ePair) r) := by
  unfold pf38 at h
  refine Con.go (N := ⟨71, []⟩) Try.func38 rfl rfl rfl rfl (W.fin ?_)
  refine W.st [(0, iR (eM eI) a0), (1, I64 a1)] ?_
  refine W.sq' ?_
  refine W.rx [(0, _), (1, _)] (Rv (O.as .knil) <| RunL.fin (.n rfl (.n rfl .nil))) ?_
  refine Px.sq ?_
  refine W.sq' ?_
  obtain ⟨x1, hx1, h⟩ := bnd h
  refine W.rx [(0, _), (1, _)] (Rv (O.mv (.lit rfl)) <| Rc (PC.go (.cc (.lit rfl) (.cc (.k rfl) .nil)) (con30 a1 60 _ hx1) call30 rfl) <| Rv (O.add (.k rfl) (.lit rfl)) <| RunL.re (G1 := [(0, iR (eM eI) a0), (13, I64 (w64 (1 + x1)))]) (.n rfl (.n rfl .nil)) <| Rv (O.as (.lit rfl)) <| RunL.fin (.n rfl (.n rfl .nil))) ?_
  refine Px.sq ?_
  refine W.sq' ?_
  refine W.rx [(0, _), (1, _), (5, _)] (Rv (O.as .knil) <| RunL.fin (.n rfl (.n rfl (.n rfl .nil)))) ?_
  refine Px.sq ?_
  refine W.sq' ?_
  refine W.sq' ?_
  refine W.rx [(0, _), (1, _), (5, _), (6, _)] (Rv (O.as (.k rfl)) <| RunL.fin (.n rfl (.n rfl (.n rfl (.n rfl .nil))))) ?_
  refine Px.sq ?_
  refine W.bk ?_
  obtain ⟨x3, hl, h⟩ := bnd h
  refine W.tr (G1 := [(0, iR (eM eI) a0), (1, I64 (w64 (1 + x1))), (5, oR (eM ePair) ([] : List (List Pair))), (6, I64 0)]) (.n rfl (.n rfl (.w rfl rfl .nilOwn (.n rfl .nil)))) ?_
  refine W.lp1 (s := (([] : List (List Pair)), 0)) (fun (s2 : List (List Pair) × Int) => [(0, iR (eM eI) a0), (1, I64 (w64 (1 + x1))), (5, oR (eM ePair) s2.1), (6, I64 s2.2)]) 0 (fun (x3 : List (List Pair)) => [(5, oR (eM ePair) x3)]) hl (fun s2 o h => ?_) ?_
  · clear hl
    refine W.sq' ?_
    refine W.sq' ?_
    obtain ⟨c6, hj, h⟩ := bnd h
    refine W.rx [(0, iR (eM eI) a0), (1, I64 (w64 (1 + x1))), (5, oR (eM ePair) s2.1), (6, I64 s2.2), (21, BB c6)] ?_ ?_
    · refine Rv (O.mv (.lit rfl)) <| Rv (O.mv (.imm rfl)) <| Rv (O.lenI (.imm rfl) sl40) <| Rv (O.lss (.lit rfl) (.lit rfl)) <| Rv (O.mv (.lit rfl)) ?_
      rcases cnd hj with ⟨hb5, hj⟩ | ⟨hb5, hj⟩
      · obtain rfl := sm hj
        exact RunL.v (O.mv (.lit rfl)) rfl rfl (.yb rfl rfl hb5) <| RunL.v (O.lss (.lit rfl) (.k rfl)) rfl rfl (.yb rfl rfl hb5) <| Rv (O.pkT (.lit rfl) hb5 (.lit rfl)) <| RunL.fin (.n rfl (.n rfl (.n rfl (.n rfl (.n rfl .nil)))))
      · obtain rfl := sm hj
        exact RunL.ps rfl rfl hb5 rfl rfl <| RunL.ps rfl rfl hb5 rfl rfl <| Rv (O.pkF (.lit rfl) hb5 (.k rfl)) <| RunL.fin (.n rfl (.n rfl (.n rfl (.n rfl (.n rfl .nil)))))
    refine Px.sq ?_
    refine W.cnd rfl (fun hb7 => ?_) (fun hb7 => ?_)
    · replace h := cndT hb7 h
      refine W.sk ?_
      refine Px.sq ?_
      refine W.sq' ?_
      refine W.bk ?_
      refine W.sq' ?_
      refine W.rx [(0, _), (1, _), (5, _), (6, _), (7, _)] (Rv (O.as .knil) <| RunL.fin (.n rfl (.n rfl (.n rfl (.n rfl (.n rfl .nil)))))) ?_
      refine Px.sq ?_
      refine W.sq' ?_
      refine W.rx [(0, _), (1, _), (5, _), (6, _), (7, _), (8, _)] (Rv (O.as .knil) <| RunL.fin (.n rfl (.n rfl (.n rfl (.n rfl (.n rfl (.n rfl .nil))))))) ?_
      refine Px.sq ?_
      refine W.sq' ?_
      refine W.sq' ?_
      refine W.rx [(0, _), (1, _), (5, _), (6, _), (7, _), (8, _), (9, _)] (Rv (O.as (.k rfl)) <| RunL.fin (.n rfl (.n rfl (.n rfl (.n rfl (.n rfl (.n rfl (.n rfl .nil)))))))) ?_
      refine Px.sq ?_
      refine W.bk ?_
      obtain ⟨x9, hl, h⟩ := bnd h
      refine W.tr (G1 := [(0, iR (eM eI) a0), (1, I64 (w64 (1 + x1))), (5, oR (eM ePair) s2.1), (6, I64 s2.2), (7, oR ePair ([] : List Pair)), (8, oR eI ([] : List Int)), (9, I64 0)]) (.n rfl (.n rfl (.n rfl (.n rfl (.w rfl rfl .nilOwn (.w rfl rfl .nilOwn (.n rfl .nil))))))) ?_
      refine W.lp1 (s := (([] : List Pair), ([] : List Int), 0)) (fun (s8 : List Pair × List Int × Int) => [(0, iR (eM eI) a0), (1, I64 (w64 (1 + x1))), (5, oR (eM ePair) s2.1), (6, I64 s2.2), (7, oR ePair s8.1), (8, oR eI s8.2.1), (9, I64 s8.2.2)]) 2 (fun (x9 : List Pair) => [(0, iR (eM eI) a0), (1, I64 (w64 (1 + x1))), (5, oR (eM ePair) s2.1), (6, I64 s2.2), (7, oR ePair x9)]) hl (fun s8 o h => ?_) ?_
      · clear hl
        refine W.sq' ?_
        refine W.sq' ?_
        obtain ⟨c13, hj, h⟩ := bnd h
        refine W.rx [(0, iR (eM eI) a0), (1, I64 (w64 (1 + x1))), (5, oR (eM ePair) s2.1), (6, I64 s2.2), (7, oR ePair s8.1), (8, oR eI s8.2.1), (9, I64 s8.2.2), (34, BB c13)] ?_ ?_
        · refine Rv (O.mv (.lit rfl)) <| Rv (O.mv (.imm rfl)) <| Rv (O.mv (.lit rfl)) ?_
          obtain ⟨x11, hx11, hj⟩ := bnd hj
          refine Rv (O.ixI (.imm rfl) (.lit rfl) sl40 hx11) <| Rv (O.ldI (x := iR eI x11) (.iptr rfl) ct33 rfl) <| Rv (O.lenI (.imm rfl) sl33) <| Rv (O.lss (.lit rfl) (.lit rfl)) <| Rv (O.mv (.lit rfl)) ?_
          rcases cnd hj with ⟨hb12, hj⟩ | ⟨hb12, hj⟩
          · obtain rfl := sm hj
            exact RunL.v (O.mv (.lit rfl)) rfl rfl (.yb rfl rfl hb12) <| RunL.v (O.lss (.lit rfl) (.k rfl)) rfl rfl (.yb rfl rfl hb12) <| Rv (O.pkT (.lit rfl) hb12 (.lit rfl)) <| RunL.fin (.n rfl (.n rfl (.n rfl (.n rfl (.n rfl (.n rfl (.n rfl (.n rfl .nil))))))))
          · obtain rfl := sm hj
            exact RunL.ps rfl rfl hb12 rfl rfl <| RunL.ps rfl rfl hb12 rfl rfl <| Rv (O.pkF (.lit rfl) hb12 (.k rfl)) <| RunL.fin (.n rfl (.n rfl (.n rfl (.n rfl (.n rfl (.n rfl (.n rfl (.n rfl .nil))))))))
        refine Px.sq ?_
        refine W.cnd rfl (fun hb14 => ?_) (fun hb14 => ?_)
        · replace h := cndT hb14 h
          refine W.sk ?_
          refine Px.sq ?_
          refine W.sq' ?_
          obtain ⟨j15, hj, h⟩ := bnd h
          refine W.jn [(0, iR (eM eI) a0), (1, I64 (w64 (1 + x1))), (5, oR (eM ePair) s2.1), (6, I64 s2.2), (7, oR ePair j15.1), (8, oR eI j15.2), (9, I64 s8.2.2)] ?_ ?_
          · clear h; have h := hj; clear hj
            refine W.bk ?_
            refine W.sq' ?_
            obtain ⟨x16, hx16, h⟩ := bnd h
            obtain ⟨x17, hx17, h⟩ := bnd h
            obtain ⟨x18, hx18, h⟩ := bnd h
            refine W.rx [(0, _), (1, _), (5, _), (6, _), (7, _), (8, _), (9, _), (10, _)] (Rv (O.mv (.imm rfl)) <| Rv (O.mv (.lit rfl)) <| Rv (O.ixI (.imm rfl) (.lit rfl) sl40 hx16) <| Rv (O.ldI (x := iR eI x16) (.iptr rfl) ct33 rfl) <| Rv (O.mv (.lit rfl)) <| Rv (O.ixI (.imm rfl) (.lit rfl) sl33 hx17) <| Rv (O.ldI (x := I64 x17) (.iptr rfl) ct3 rfl) <| Rv (O.mv (.lit rfl)) <| Rc (PC.go (.cc (.lit rfl) (.cc (.lit rfl) .nil)) (con30 x17 (w64 (1 + x1)) _ hx18) call30 rfl) <| Rv (O.as (.lit rfl)) <| RunL.fin (.n rfl (.n rfl (.n rfl (.n rfl (.n rfl (.n rfl (.n rfl (.n rfl .nil))))))))) ?_
            refine Px.sq ?_
            refine W.sq' ?_
            obtain ⟨x19, hx19, h⟩ := bnd h
            refine W.rx [(0, _), (1, _), (5, _), (6, _), (7, _), (8, _), (9, _), (10, _), (49, _)] (Rv (O.mv (.own rfl)) <| Rv (O.mv (.lit rfl)) <| Rc (PC.vw (ys := [.brw eI.z ⟨8, []⟩ s8.2.1.length, I64 x18]) rfl (.c (.row rfl) (.s .nil)) (con35 s8.2.1 x18 _ hx19) call35 rfl) <| Rv (O.not (.lit rfl)) <| RunL.fin (.n rfl (.n rfl (.n rfl (.n rfl (.n rfl (.n rfl (.n rfl (.n rfl (.n rfl .nil)))))))))) ?_
            refine Px.sq ?_
            obtain ⟨j20, hj, h⟩ := bnd h
            refine W.jn [(0, iR (eM eI) a0), (1, I64 (w64 (1 + x1))), (5, oR (eM ePair) s2.1), (6, I64 s2.2), (7, oR ePair j20.1), (8, oR eI j20.2), (9, I64 s8.2.2)] ?_ ?_
            · clear h; have h := hj; clear hj
              refine W.cnd rfl (fun hb21 => ?_) (fun hb21 => ?_)
              · replace h := cndT hb21 h
                refine W.sq' ?_
                obtain ⟨x22, hx22, h⟩ := bnd h
                refine W.rx [(0, _), (1, _), (5, _), (6, _), (7, _), (8, _), (9, _), (10, _)] (Rv (O.mv (.own rfl)) <| Rv (O.mv (.lit rfl)) <| RunL.vi (x := iR eI [x18]) (O.bs (ys := [I64 x18]) eI [x18] sl33 rfl rfl rfl rfl rfl rfl zt3 rfl rfl) rfl rfl .none <| Rv (O.ap (en := eI) (r := x22) (.brw rfl) rfl (.imm rfl) .i ap33 rfl hx22) <| RunL.ea (G2 := [(0, iR (eM eI) a0), (1, I64 (w64 (1 + x1))), (5, oR (eM ePair) s2.1), (6, I64 s2.2), (7, oR ePair s8.1), (9, I64 s8.2.2), (10, I64 x18)]) rfl (EO.aP rfl rfl (.pend rfl) rfl rfl rfl (.n rfl rfl (.n rfl rfl (.n rfl rfl (.n rfl rfl (.n rfl rfl (.n rfl rfl (.n rfl rfl .nil))))))) rfl rfl) <| RunL.fin (.n rfl (.n rfl (.n rfl (.n rfl (.n rfl (.n rfl (.n rfl (.n rfl .nil))))))))) ?_
                refine Px.sq ?_
                obtain ⟨x23, hx23, h⟩ := bnd h
                obtain ⟨x24, hx24, h⟩ := bnd h
                obtain ⟨x25, hx25, h⟩ := bnd h
                refine W.rx [(0, _), (1, _), (5, _), (6, _), (7, _), (8, _), (9, _)] (Rv (O.mv (.own rfl)) <| Rv (O.mv (.lit rfl)) <| Rv (O.mv (.imm rfl)) <| Rv (O.mv (.lit rfl)) <| Rv (O.ixI (.imm rfl) (.lit rfl) sl40 hx23) <| Rv (O.ldI (x := iR eI x23) (.iptr rfl) ct33 rfl) <| Rv (O.mv (.lit rfl)) <| Rv (O.ixI (.imm rfl) (.lit rfl) sl33 hx24) <| Rv (O.ldI (x := I64 x24) (.iptr rfl) ct3 rfl) <| Rv (O.bu (cs := [I64 x18, I64 x24]) sc61 ze61 rfl rfl rfl) <| RunL.vi (x := iR ePair [(⟨x18, x24⟩ : Pair)]) (O.bs (ys := [.agg [I64 x18, I64 x24]]) ePair [(⟨x18, x24⟩ : Pair)] sl53 rfl rfl rfl rfl rfl rfl zt61 rfl rfl) rfl rfl .none <| Rv (O.ap (en := ePair) (r := x25) (.brw rfl) rfl (.imm rfl) .i ap53 rfl hx25) <| RunL.ea (G2 := [(0, iR (eM eI) a0), (1, I64 (w64 (1 + x1))), (5, oR (eM ePair) s2.1), (6, I64 s2.2), (8, oR eI (s8.2.1 ++ [x18])), (9, I64 s8.2.2)]) rfl (EO.aP rfl rfl (.pend rfl) rfl rfl rfl (.n rfl rfl (.n rfl rfl (.n rfl rfl (.n rfl rfl (.n rfl rfl (.n rfl rfl .nil)))))) rfl rfl) <| RunL.fin (.n rfl (.n rfl (.n rfl (.n rfl (.n rfl (.n rfl (.n rfl .nil)))))))) ?_
                obtain rfl := sm h
                exact Px.jn (.n rfl (.n rfl (.n rfl (.n rfl (.n rfl (.n rfl (.n rfl .nil)))))))
              · replace h := cndF hb21 h
                refine W.sk ?_
                obtain rfl := sm h
                exact Px.jn (.n rfl (.n rfl (.n rfl (.n rfl (.n rfl (.n rfl (.n rfl .nil)))))))
            refine Px.bk ?_
            obtain rfl := sm h
            exact Px.jn (.n rfl (.n rfl (.n rfl (.n rfl (.n rfl (.n rfl (.n rfl .nil)))))))
          refine Px.sq ?_
          refine W.rx [(0, _), (1, _), (5, _), (6, _), (7, _), (8, _), (9, _)] (Rv (O.mv (.lit rfl)) <| Rv (O.add (.lit rfl) (.k rfl)) <| RunL.re (G1 := [(0, iR (eM eI) a0), (1, I64 (w64 (1 + x1))), (5, oR (eM ePair) s2.1), (6, I64 s2.2), (7, oR ePair j15.1), (8, oR eI j15.2), (36, I64 (w64 (s8.2.2 + 1)))]) (.n rfl (.n rfl (.n rfl (.n rfl (.n rfl (.n rfl (.n rfl .nil))))))) <| Rv (O.as (.lit rfl)) <| RunL.fin (.n rfl (.n rfl (.n rfl (.n rfl (.n rfl (.n rfl (.n rfl .nil)))))))) ?_
          obtain rfl := sm h
          exact Px.go (.n rfl (.n rfl (.n rfl (.n rfl (.n rfl (.n rfl (.n rfl .nil)))))))
        · replace h := cndF hb14 h
          refine W.xi ?_
          refine Px.sqE ?_
          obtain rfl := sm h
          exact Px.x1 (.n rfl (.n rfl (.n rfl (.n rfl (.n rfl .nil)))))
      refine Px.bkH ?_
      refine Px.sq ?_
      obtain ⟨x26, hx26, h⟩ := bnd h
      refine W.rx [(0, _), (1, _), (5, _), (6, _)] (Rv (O.mv (.own rfl)) <| Rv (O.mv (.own rfl)) <| Rv (O.bsL (ys := [.brw ePair.z ⟨7, []⟩ x9.length]) (cs := [.brw ePair.z ⟨7, []⟩ x9.length]) sl78 rfl rfl rfl rfl rfl zt53 rfl rfl) <| Rv (O.apL (en := (eM ePair)) (M := [x9]) (r := x26) (.brw rfl) rfl (.own rfl) rfl rfl rfl rfl ap78 rfl hx26) <| RunL.ea (G2 := [(0, iR (eM eI) a0), (1, I64 (w64 (1 + x1))), (6, I64 s2.2)]) rfl (EO.apG (M := [x9]) rfl rfl (.pend rfl) rfl rfl rfl (.r rfl .nil) (.z .nil) rfl rfl (.n rfl (.n rfl (.n rfl .nil))) rfl rfl) <| RunL.fin (.n rfl (.n rfl (.n rfl (.n rfl .nil))))) ?_
      refine Px.bk ?_
      refine Px.sq ?_
      refine W.rx [(0, _), (1, _), (5, _), (6, _)] (Rv (O.mv (.lit rfl)) <| Rv (O.add (.lit rfl) (.k rfl)) <| RunL.re (G1 := [(0, iR (eM eI) a0), (1, I64 (w64 (1 + x1))), (5, oR (eM ePair) (s2.1 ++ [x9])), (23, I64 (w64 (s2.2 + 1)))]) (.n rfl (.n rfl (.n rfl (.n rfl .nil)))) <| Rv (O.as (.lit rfl)) <| RunL.fin (.n rfl (.n rfl (.n rfl (.n rfl .nil))))) ?_
      obtain rfl := sm h
      exact Px.go (.n rfl (.n rfl (.n rfl (.n rfl .nil))))
    · replace h := cndF hb7 h
      refine W.xi ?_
      refine Px.sqE ?_
      obtain rfl := sm h
      exact Px.x1 (.n rfl .nil)
  refine Px.bkH ?_
  refine Px.sq ?_
  refine W.sq' ?_
  refine W.rx [(4, _)] (Rv (O.mv (.own rfl)) <| RunL.ea (G2 := []) rfl (EO.aR rfl rfl (.brw rfl) rfl .nil rfl rfl) <| RunL.fin (.n rfl .nil)) ?_
  refine Px.sq ?_
  refine W.fz (G1 := [(4, iR (eM ePair) x3)]) [4] (.z rfl rfl .zz .nil) ?_
  refine W.rt ?_
  obtain rfl := sm h
  exact Px.fin (Fin.ro (.f rfl rfl .nil) rfl (of_decide_eq_true (by kernel_rfl)) (.no (.no .nil)) rfl (.inr rfl))
def pf39 (a0 : (List (List Pair))) : Option ((List (List Pair))) :=
 (loopM (R := List (List Pair)) (fun (s1 : List (List Pair) × Int) =>
 ((bif decide (s1.2 < (a0.length : Int)) then some (decide (s1.2 < 9)) else some false)).bind fun c5 =>
 (bif c5 then
 (idx a0 s1.2).bind fun x7 =>
 ((bif decide (6 < (x7.length : Int)) then
 (subO x7 0 6).bind fun x10 =>
 some x10
 else
 some x7)).bind fun j8 =>
 (appO s1.1 [j8]).bind fun x11 =>
 some (.inl (s1.1 ++ [j8], w64 (s1.2 + 1)))
 else
 some (.inr s1.1))) (([] : List (List Pair)), 0)).bind fun x2 =>
 some x2
def pf43 (a0 : (List Pair)) (a1 : Int) : Option (Int × Bool) :=
 (loopM (R := (Unit) ⊕ (Int × Bool)) (fun (s1 : Int) =>
 (bif decide (s1 < (a0.length : Int)) then
 (idx a0 s1).bind fun x6 =>
 (bif decide (x6.At = a1) then
 (idx a0 s1).bind fun x8 =>
 some (.inr (.inr (x8.Val, true)))
 else
 some (.inl (w64 (s1 + 1))))
 else
 some (.inr (.inl ())))) 0).bind fun x2 =>
 (match x2 with
 | .inl x3 =>
 some (0, false)
 | .inr x4 =>
 some (x4.1, x4.2))
theorem con43 (a0 : (List Pair)) (a1 : Int) (r : Int × Bool) (h : pf43 a0 a1 = some r) : Con Try.prog 43 [iR ePair a0, I64 a1] [none, none] (.tup [I64 r.1, BB r.2]) := by
  unfold pf43 at h
  refine Con.go (N := ⟨25, []⟩) Try.func43 rfl rfl rfl rfl (W.fin ?_)
  refine W.st [(0, iR ePair a0), (1, I64 a1)] ?_
  refine W.sq' ?_
  refine W.rx [(0, _), (1, _)] (Rv (O.as (.k rfl)) <| Rv (O.as (.k rfl)) <| RunL.fin (.n rfl (.n rfl .nil))) ?_
  refine Px.sq ?_
  refine W.sq' ?_
  refine W.sq' ?_
  refine W.rx [(0, _), (1, _), (6, _)] (Rv (O.as (.k rfl)) <| RunL.fin (.n rfl (.n rfl (.n rfl .nil)))) ?_
  refine Px.sq ?_
  refine W.bk ?_
  obtain ⟨x2, hl, h⟩ := bnd h
  refine W.tr (G1 := [(0, iR ePair a0), (1, I64 a1), (6, I64 0)]) (.n rfl (.n rfl (.n rfl .nil))) ?_
  refine W.lp2 (s := 0) (fun (s1 : Int) => [(0, iR ePair a0), (1, I64 a1), (6, I64 s1)]) 0 (fun (x3 : Unit) => []) (fun (x4 : Int × Bool) => [(4, I64 x4.1), (5, BB x4.2)]) hl (fun s1 o h => ?_) (fun x3 hx => ?_) (fun x4 hx => ?_)
  · clear hl
    refine W.sq' ?_
    refine W.sq' ?_
    refine W.rx [(0, _), (1, _), (6, _), (10, _)] (Rv (O.mv (.lit rfl)) <| Rv (O.mv (.imm rfl)) <| Rv (O.lenI (.imm rfl) sl53) <| Rv (O.lss (.lit rfl) (.lit rfl)) <| RunL.fin (.n rfl (.n rfl (.n rfl (.n rfl .nil))))) ?_
    refine Px.sq ?_
    refine W.cnd rfl (fun hb5 => ?_) (fun hb5 => ?_)
    · replace h := cndT hb5 h
      refine W.sk ?_
      refine Px.sq ?_
      refine W.sq' ?_
      refine W.bk ?_
      refine W.sq' ?_
      obtain ⟨x6, hx6, h⟩ := bnd h
      refine W.rx [(0, _), (1, _), (6, _), (19, _)] (Rv (O.mv (.imm rfl)) <| Rv (O.mv (.lit rfl)) <| Rv (O.ixI (.imm rfl) (.lit rfl) sl53 hx6) <| Rv (O.fI (.iptr rfl) fd61_0) <| Rv (O.ldI (x := I64 x6.At) (.iptr rfl) ct3 rfl) <| Rv (O.mv (.lit rfl)) <| Rv (O.eql (.lit rfl) (.lit rfl)) <| RunL.fin (.n rfl (.n rfl (.n rfl (.n rfl .nil))))) ?_
      refine Px.sq ?_
      refine W.cnd rfl (fun hb7 => ?_) (fun hb7 => ?_)
      · replace h := cndT hb7 h
        refine W.sq' ?_
        obtain ⟨x8, hx8, h⟩ := bnd h
        refine W.rx [(4, _), (5, _)] (Rv (O.mv (.imm rfl)) <| Rv (O.mv (.lit rfl)) <| Rv (O.ixI (.imm rfl) (.lit rfl) sl53 hx8) <| Rv (O.fI (.iptr rfl) fd61_1) <| Rv (O.ldI (x := I64 x8.Val) (.iptr rfl) ct3 rfl) <| Rv (O.as (.lit rfl)) <| Rv (O.as (.k rfl)) <| RunL.fin (.n rfl (.n rfl .nil))) ?_
        refine Px.sq ?_
        refine W.rt ?_
        refine Px.bkR ?_
        refine Px.sqR ?_
        obtain rfl := sm h
        exact Px.r2 (.n rfl (.n rfl .nil))
      · replace h := cndF hb7 h
        refine W.sk ?_
        refine Px.bk ?_
        refine Px.sq ?_
        refine W.rx [(0, _), (1, _), (6, _)] (Rv (O.mv (.lit rfl)) <| Rv (O.add (.lit rfl) (.k rfl)) <| RunL.re (G1 := [(0, iR ePair a0), (1, I64 a1), (12, I64 (w64 (s1 + 1)))]) (.n rfl (.n rfl (.n rfl .nil))) <| Rv (O.as (.lit rfl)) <| RunL.fin (.n rfl (.n rfl (.n rfl .nil)))) ?_
        obtain rfl := sm h
        exact Px.go (.n rfl (.n rfl (.n rfl .nil)))
    · replace h := cndF hb5 h
      refine W.xi ?_
      refine Px.sqE ?_
      obtain rfl := sm h
      exact Px.x2 .nil
  · subst hx
    refine Px.bkH ?_
    refine Px.sq ?_
    refine W.sq' ?_
    refine W.rx [(4, _), (5, _)] (Rv (O.as (.k rfl)) <| Rv (O.as (.k rfl)) <| RunL.fin (.n rfl (.n rfl .nil))) ?_
    refine Px.sq ?_
    refine W.rt ?_
    obtain rfl := sm h
    exact Px.fin (Fin.ro (.f rfl rfl (.f rfl rfl .nil)) rfl (of_decide_eq_true (by kernel_rfl)) (.no (.no .nil)) rfl (.inr rfl))
  · subst hx
    refine Px.bkR ?_
    refine Px.sqR ?_
    obtain rfl := sm h
    exact Px.fin (Fin.ro (.f rfl rfl (.f rfl rfl .nil)) rfl (of_decide_eq_true (by kernel_rfl)) (.no (.no .nil)) rfl (.inr rfl))
def pf37  : Option (Bool) :=
 (pf41 [[(⟨0, 5⟩ : Pair), (⟨2, 6⟩ : Pair)], [(⟨1, 7⟩ : Pair)]]).bind fun x1 =>
 (pf44 x1 1 1).bind fun x2 =>
 (pf44 x1 1 0).bind fun x3 =>
 (((pf40 x1 (⟨[0, 0], [5, 7, 6], [1, 2, 1]⟩ : Comb)).bind fun x4 => (bif x4 then (bif decide (x2.1 = 7) then (bif x2.2 then some (!x3.2) else some false) else some false) else some false))).bind fun c8 =>
 some c8
theorem con37  (r : Bool) (h : pf37  = some r) : Con Try.prog 37 [] [] (BB r) := by
  unfold pf37 at h
  refine Con.go (N := ⟨40, []⟩) Try.func37 rfl rfl rfl rfl (W.fin ?_)
  refine W.st [] ?_
  refine W.sq' ?_
  refine W.rx [] (Rv (O.as (.k rfl)) <| RunL.fin .nil) ?_
  refine Px.sq ?_
  refine W.sq' ?_
  obtain ⟨x1, hx1, h⟩ := bnd h
  refine W.rx [(1, _)] (Rv (O.bu (cs := [I64 0, I64 5]) sc61 ze61 rfl rfl rfl) <| Rv (O.bu (cs := [I64 2, I64 6]) sc61 ze61 rfl rfl rfl) <| RunL.vi (x := iR ePair [(⟨0, 5⟩ : Pair), (⟨2, 6⟩ : Pair)]) (O.bs (ys := [.agg [I64 0, I64 5], .agg [I64 2, I64 6]]) ePair [(⟨0, 5⟩ : Pair), (⟨2, 6⟩ : Pair)] sl53 rfl rfl rfl rfl rfl rfl zt61 rfl rfl) rfl rfl .none <| Rv (O.bu (cs := [I64 1, I64 7]) sc61 ze61 rfl rfl rfl) <| RunL.vi (x := iR ePair [(⟨1, 7⟩ : Pair)]) (O.bs (ys := [.agg [I64 1, I64 7]]) ePair [(⟨1, 7⟩ : Pair)] sl53 rfl rfl rfl rfl rfl rfl zt61 rfl rfl) rfl rfl .none <| RunL.vi (x := iR (eM ePair) [[(⟨0, 5⟩ : Pair), (⟨2, 6⟩ : Pair)], [(⟨1, 7⟩ : Pair)]]) (O.bs (ys := [iR ePair [(⟨0, 5⟩ : Pair), (⟨2, 6⟩ : Pair)], iR ePair [(⟨1, 7⟩ : Pair)]]) (eM ePair) [[(⟨0, 5⟩ : Pair), (⟨2, 6⟩ : Pair)], [(⟨1, 7⟩ : Pair)]] sl78 rfl rfl rfl rfl rfl rfl zt53 rfl rfl) rfl rfl .none <| Rc (PC.go (.cc (.imm rfl) .nil) (con41 [[(⟨0, 5⟩ : Pair), (⟨2, 6⟩ : Pair)], [(⟨1, 7⟩ : Pair)]] _ hx1) call41 rfl) <| Rv (O.al (cs := [.nils, .nils, .nils]) ze83 rfl rfl) <| RunL.sO (G2 := [(1, .obj [iR eI x1.Base, iR eI x1.Val, iR eI x1.Chk])]) (cs2 := [iR eI x1.Base, iR eI x1.Val, iR eI x1.Chk]) rfl (.obj rfl) (.aggF rfl rfl) rfl sz83 rfl rfl rfl rfl (.b rfl .nil) <| RunL.fin (.n rfl .nil)) ?_
  refine Px.sq ?_
  refine W.sq' ?_
  obtain ⟨x2, hx2, h⟩ := bnd h
  refine W.rx [(1, _), (2, _), (3, _)] (Rv (O.ldON (cs' := [iR eI x1.Base, iR eI x1.Val, iR eI x1.Chk]) rfl (.obj rfl) at83 rfl rfl) <| Rc (PC.go (.cc (.aggF rfl rfl) (.cc (.k rfl) (.cc (.k rfl) .nil))) (con44 x1 1 1 _ hx2) call44 rfl) <| Rv (O.mv (.tupF rfl rfl)) <| Rv (O.ex (y := I64 x2.1) rfl rfl rfl) <| Rv (O.ex (y := BB x2.2) rfl rfl rfl) <| Rv (O.as (.lit rfl)) <| Rv (O.as (.lit rfl)) <| RunL.fin (.n rfl (.n rfl (.n rfl .nil)))) ?_
  refine Px.sq ?_
  refine W.sq' ?_
  obtain ⟨x3, hx3, h⟩ := bnd h
  refine W.rx [(1, _), (2, _), (3, _), (5, _)] (Rv (O.ldON (cs' := [iR eI x1.Base, iR eI x1.Val, iR eI x1.Chk]) rfl (.obj rfl) at83 rfl rfl) <| Rc (PC.go (.cc (.aggF rfl rfl) (.cc (.k rfl) (.cc (.k rfl) .nil))) (con44 x1 1 0 _ hx3) call44 rfl) <| Rv (O.mv (.tupF rfl rfl)) <| Rv (O.ex (y := I64 x3.1) rfl rfl rfl) <| Rv (O.ex (y := BB x3.2) rfl rfl rfl) <| Rv (O.as (.lit rfl)) <| Rv (O.as (.lit rfl)) <| RunL.fin (.n rfl (.n rfl (.n rfl (.n rfl .nil))))) ?_
  refine Px.sq ?_
  refine W.sq' ?_
  obtain ⟨c8, hj, h⟩ := bnd h
  refine W.rx [(0, BB c8)] ?_ ?_
  · refine Rv (O.ldON (cs' := [iR eI x1.Base, iR eI x1.Val, iR eI x1.Chk]) rfl (.obj rfl) at83 rfl rfl) <| RunL.vi (x := iR eI [0, 0]) (O.bs (ys := [I64 0, I64 0]) eI [0, 0] sl33 rfl rfl rfl rfl rfl rfl zt3 rfl rfl) rfl rfl .none <| RunL.vi (x := iR eI [5, 7, 6]) (O.bs (ys := [I64 5, I64 7, I64 6]) eI [5, 7, 6] sl33 rfl rfl rfl rfl rfl rfl zt3 rfl rfl) rfl rfl .none <| RunL.vi (x := iR eI [1, 2, 1]) (O.bs (ys := [I64 1, I64 2, I64 1]) eI [1, 2, 1] sl33 rfl rfl rfl rfl rfl rfl zt3 rfl rfl) rfl rfl .none <| Rv (O.bu (cs := [iR eI [0, 0], iR eI [5, 7, 6], iR eI [1, 2, 1]]) sc83 ze83 rfl rfl rfl) ?_
    obtain ⟨x4, hx4, hj⟩ := bnd hj
    refine Rc (PC.go (.cc (.aggF rfl rfl) (.cc (.aggF rfl rfl) .nil)) (con40 x1 (⟨[0, 0], [5, 7, 6], [1, 2, 1]⟩ : Comb) _ hx4) call40 rfl) <| Rv (O.mv (.lit rfl)) ?_
    rcases cnd hj with ⟨hb5, hj⟩ | ⟨hb5, hj⟩
    · refine RunL.v (O.mv (.lit rfl)) rfl rfl (.yb rfl rfl hb5) <| RunL.v (O.eql (.lit rfl) (.k rfl)) rfl rfl (.yb rfl rfl hb5) <| Rv (O.pkT (.lit rfl) hb5 (.lit rfl)) <| Rv (O.mv (.lit rfl)) ?_
      rcases cnd hj with ⟨hb6, hj⟩ | ⟨hb6, hj⟩
      · refine RunL.v (O.mv (.lit rfl)) rfl rfl (.yb rfl rfl hb6) <| Rv (O.pkT (.lit rfl) hb6 (.lit rfl)) <| Rv (O.mv (.lit rfl)) ?_
        rcases cnd hj with ⟨hb7, hj⟩ | ⟨hb7, hj⟩
        · obtain rfl := sm hj
          exact RunL.v (O.mv (.lit rfl)) rfl rfl (.yb rfl rfl hb7) <| RunL.v (O.not (.lit rfl)) rfl rfl (.yb rfl rfl hb7) <| Rv (O.pkT (.lit rfl) hb7 (.lit rfl)) <| Rv (O.as (.lit rfl)) <| RunL.fin (.n rfl .nil)
        · obtain rfl := sm hj
          exact RunL.ps rfl rfl hb7 rfl rfl <| RunL.ps rfl rfl hb7 rfl rfl <| Rv (O.pkF (.lit rfl) hb7 (.k rfl)) <| Rv (O.as (.lit rfl)) <| RunL.fin (.n rfl .nil)
      · obtain rfl := sm hj
        exact RunL.ps rfl rfl hb6 rfl rfl <| Rv (O.pkF (.lit rfl) hb6 (.k rfl)) <| Rv (O.mv (.lit rfl)) <| RunL.ps rfl rfl rfl rfl rfl <| RunL.ps rfl rfl rfl rfl rfl <| Rv (O.pkF (.lit rfl) rfl (.k rfl)) <| Rv (O.as (.lit rfl)) <| RunL.fin (.n rfl .nil)
    · obtain rfl := sm hj
      exact RunL.ps rfl rfl hb5 rfl rfl <| RunL.ps rfl rfl hb5 rfl rfl <| Rv (O.pkF (.lit rfl) hb5 (.k rfl)) <| Rv (O.mv (.lit rfl)) <| RunL.ps rfl rfl rfl rfl rfl <| Rv (O.pkF (.lit rfl) rfl (.k rfl)) <| Rv (O.mv (.lit rfl)) <| RunL.ps rfl rfl rfl rfl rfl <| RunL.ps rfl rfl rfl rfl rfl <| Rv (O.pkF (.lit rfl) rfl (.k rfl)) <| Rv (O.as (.lit rfl)) <| RunL.fin (.n rfl .nil)
  refine Px.sq ?_
  refine W.rt ?_
  obtain rfl := sm h
  exact Px.fin (Fin.ro (.f rfl rfl .nil) rfl (of_decide_eq_true (by kernel_rfl)) .nil rfl (.inr rfl))
def pf9 (a0 : (List (List Int))) (a1 : Int) (a2 : Int) (a3 : Int) : Option (Bool) :=
 (pf37 ).bind fun x1 =>
 (bif !x1 then
 some false
 else
 (pf38 a0 a1).bind fun x3 =>
 (pf41 x3).bind fun x4 =>
 (loopM (R := (Unit) ⊕ (Bool)) (fun (s5 : Int) =>
 (bif decide (s5 ≤ (x3.length : Int)) then
 (loopM (R := (Unit) ⊕ (Bool)) (fun (s10 : Int) =>
 (bif decide (s10 < 70) then
 ((bif decide (0 ≤ s5) then some (decide (s5 < (x3.length : Int))) else some false)).bind fun c16 =>
 ((bif c16 then
 (idx x3 s5).bind fun x19 =>
 (pf43 x19 s10).bind fun x20 =>
 some (x20.1, x20.2)
 else
 some (0, false))).bind fun j17 =>
 (pf44 x4 s5 s10).bind fun x21 =>
 ((bif !decide (x21.1 = j17.1) then some true else some (!(x21.2 == j17.2)))).bind fun c23 =>
 (bif c23 then
 some (.inr (.inr false))
 else
 some (.inl (w64 (s10 + 1))))
 else
 some (.inr (.inl ())))) (-1)).bind fun x11 =>
 (match x11 with
 | .inl x12 =>
 ((bif decide (0 ≤ s5) then some (decide (s5 < (x3.length : Int))) else some false)).bind fun c26 =>
 ((bif c26 then
 (idx x3 s5).bind fun x29 =>
 (pf43 x29 a3).bind fun x30 =>
 some (x30.1, x30.2)
 else
 some (0, false))).bind fun j27 =>
 (pf44 x4 s5 a3).bind fun x31 =>
 ((bif !decide (x31.1 = j27.1) then some true else some (!(x31.2 == j27.2)))).bind fun c33 =>
 (bif c33 then
 some (.inr (.inr false))
 else
 some (.inl (w64 (s5 + 1))))
 | .inr x13 =>
 some (.inr (.inr x13)))
 else
 some (.inr (.inl ())))) (-1)).bind fun x6 =>
 (match x6 with
 | .inl x7 =>
 (pf44 x4 a2 0).bind fun x35 =>
 ((bif decide (0 ≤ a2) then (bif decide (a2 < (x3.length : Int)) then some true else some (!x35.2)) else some (!x35.2))).bind fun c38 =>
 some c38
 | .inr x8 =>
 some x8))
theorem con9 (a0 : (List (List Int))) (a1 : Int) (a2 : Int) (a3 : Int) (r : Bool) (h : pf9 a0 a1 a2 a3 = some r) : Con Try.prog 9 [iR (eM eI) a0, I64 a1, I64 a2, I64 a3] [none, none, none, none] (BB r) := by
  unfold pf9 at h
  refine Con.go (N := ⟨122, []⟩) Try.func9 rfl rfl rfl rfl (W.fin ?_)
  refine W.st [(0, iR (eM eI) a0), (1, I64 a1), (2, I64 a2), (3, I64 a3)] ?_
  refine W.sq' ?_
  refine W.rx [(0, _), (1, _), (2, _), (3, _)] (Rv (O.as (.k rfl)) <| RunL.fin (.n rfl (.n rfl (.n rfl (.n rfl .nil))))) ?_
  refine Px.sq ?_
  refine W.sq' ?_
  refine W.sq' ?_
  obtain ⟨x1, hx1, h⟩ := bnd h
  refine W.rx [(0, _), (1, _), (2, _), (3, _), (24, _)] (Rc (PC.go .nil (con37  _ hx1) call37 rfl) <| Rv (O.not (.lit rfl)) <| RunL.fin (.n rfl (.n rfl (.n rfl (.n rfl (.n rfl .nil)))))) ?_
  refine Px.sq ?_
  refine W.cnd rfl (fun hb2 => ?_) (fun hb2 => ?_)
  · replace h := cndT hb2 h
    refine W.sq' ?_
    refine W.rx [(8, _)] (Rv (O.as (.k rfl)) <| RunL.fin (.n rfl .nil)) ?_
    refine Px.sq ?_
    refine W.rt ?_
    refine Px.sqR ?_
    obtain rfl := sm h
    exact Px.fin (Fin.ro (.f rfl rfl .nil) rfl (of_decide_eq_true (by kernel_rfl)) (.no (.no (.no (.no .nil)))) rfl (.inr rfl))
  · replace h := cndF hb2 h
    refine W.sk ?_
    refine Px.sq ?_
    refine W.sq' ?_
    obtain ⟨x3, hx3, h⟩ := bnd h
    refine W.rx [(2, _), (3, _), (9, _)] (Rv (O.mv (.imm rfl)) <| Rv (O.mv (.lit rfl)) <| Rc (PC.go (.cc (.imm rfl) (.cc (.lit rfl) .nil)) (con38 a0 a1 _ hx3) call38 rfl) <| Rv (O.as (.imm rfl)) <| RunL.fin (.n rfl (.n rfl (.n rfl .nil)))) ?_
    refine Px.sq ?_
    refine W.sq' ?_
    obtain ⟨x4, hx4, h⟩ := bnd h
    refine W.rx [(2, _), (3, _), (9, _), (10, _)] (Rv (O.mv (.imm rfl)) <| Rc (PC.go (.cc (.imm rfl) .nil) (con41 x3 _ hx4) call41 rfl) <| Rv (O.al (cs := [.nils, .nils, .nils]) ze83 rfl rfl) <| RunL.sO (G2 := [(2, I64 a2), (3, I64 a3), (9, iR (eM ePair) x3), (10, .obj [iR eI x4.Base, iR eI x4.Val, iR eI x4.Chk])]) (cs2 := [iR eI x4.Base, iR eI x4.Val, iR eI x4.Chk]) rfl (.obj rfl) (.aggF rfl rfl) rfl sz83 rfl rfl rfl rfl (.n rfl rfl (.n rfl rfl (.n rfl rfl (.b rfl .nil)))) <| RunL.fin (.n rfl (.n rfl (.n rfl (.n rfl .nil))))) ?_
    refine Px.sq ?_
    refine W.sq' ?_
    refine W.sq' ?_
    refine W.rx [(2, _), (3, _), (9, _), (10, _), (11, _)] (Rv (O.as (.k rfl)) <| RunL.fin (.n rfl (.n rfl (.n rfl (.n rfl (.n rfl .nil)))))) ?_
    refine Px.sq ?_
    refine W.bk ?_
    obtain ⟨x6, hl, h⟩ := bnd h
    refine W.tr (G1 := [(2, I64 a2), (3, I64 a3), (9, iR (eM ePair) x3), (10, .obj [iR eI x4.Base, iR eI x4.Val, iR eI x4.Chk]), (11, I64 (-1))]) (.n rfl (.n rfl (.n rfl (.n rfl (.n rfl .nil))))) ?_
    refine W.lp2 (s := (-1)) (fun (s5 : Int) => [(2, I64 a2), (3, I64 a3), (9, iR (eM ePair) x3), (10, .obj [iR eI x4.Base, iR eI x4.Val, iR eI x4.Chk]), (11, I64 s5)]) 0 (fun (x7 : Unit) => [(2, I64 a2), (9, iR (eM ePair) x3), (10, .obj [iR eI x4.Base, iR eI x4.Val, iR eI x4.Chk])]) (fun (x8 : Bool) => [(8, BB x8)]) hl (fun s5 o h => ?_) (fun x7 hx => ?_) (fun x8 hx => ?_)
    · clear hl
      refine W.sq' ?_
      refine W.sq' ?_
      refine W.rx [(2, _), (3, _), (9, _), (10, _), (11, _), (33, _)] (Rv (O.mv (.lit rfl)) <| Rv (O.mv (.imm rfl)) <| Rv (O.lenI (.imm rfl) sl78) <| Rv (O.leq (.lit rfl) (.lit rfl)) <| RunL.fin (.n rfl (.n rfl (.n rfl (.n rfl (.n rfl (.n rfl .nil))))))) ?_
      refine Px.sq ?_
      refine W.cnd rfl (fun hb9 => ?_) (fun hb9 => ?_)
      · replace h := cndT hb9 h
        refine W.sk ?_
        refine Px.sq ?_
        refine W.sq' ?_
        refine W.bk ?_
        refine W.sq' ?_
        refine W.sq' ?_
        refine W.rx [(2, _), (3, _), (9, _), (10, _), (11, _), (12, _)] (Rv (O.as (.k rfl)) <| RunL.fin (.n rfl (.n rfl (.n rfl (.n rfl (.n rfl (.n rfl .nil))))))) ?_
        refine Px.sq ?_
        refine W.bk ?_
        obtain ⟨x11, hl, h⟩ := bnd h
        refine W.tr (G1 := [(2, I64 a2), (3, I64 a3), (9, iR (eM ePair) x3), (10, .obj [iR eI x4.Base, iR eI x4.Val, iR eI x4.Chk]), (11, I64 s5), (12, I64 (-1))]) (.n rfl (.n rfl (.n rfl (.n rfl (.n rfl (.n rfl .nil)))))) ?_
        refine W.lp2 (s := (-1)) (fun (s10 : Int) => [(2, I64 a2), (3, I64 a3), (9, iR (eM ePair) x3), (10, .obj [iR eI x4.Base, iR eI x4.Val, iR eI x4.Chk]), (11, I64 s5), (12, I64 s10)]) 2 (fun (x12 : Unit) => [(2, I64 a2), (3, I64 a3), (9, iR (eM ePair) x3), (10, .obj [iR eI x4.Base, iR eI x4.Val, iR eI x4.Chk]), (11, I64 s5)]) (fun (x13 : Bool) => [(8, BB x13)]) hl (fun s10 o h => ?_) (fun x12 hx => ?_) (fun x13 hx => ?_)
        · clear hl
          refine W.sq' ?_
          refine W.sq' ?_
          refine W.rx [(2, _), (3, _), (9, _), (10, _), (11, _), (12, _), (37, _)] (Rv (O.mv (.lit rfl)) <| Rv (O.lss (.lit rfl) (.k rfl)) <| RunL.fin (.n rfl (.n rfl (.n rfl (.n rfl (.n rfl (.n rfl (.n rfl .nil)))))))) ?_
          refine Px.sq ?_
          refine W.cnd rfl (fun hb14 => ?_) (fun hb14 => ?_)
          · replace h := cndT hb14 h
            refine W.sk ?_
            refine Px.sq ?_
            refine W.sq' ?_
            refine W.bk ?_
            refine W.sq' ?_
            refine W.rx [(2, _), (3, _), (9, _), (10, _), (11, _), (12, _), (13, _), (14, _)] (Rv (O.as (.k rfl)) <| Rv (O.as (.k rfl)) <| RunL.fin (.n rfl (.n rfl (.n rfl (.n rfl (.n rfl (.n rfl (.n rfl (.n rfl .nil))))))))) ?_
            refine Px.sq ?_
            refine W.sq' ?_
            refine W.sq' ?_
            obtain ⟨c16, hj, h⟩ := bnd h
            refine W.rx [(2, I64 a2), (3, I64 a3), (9, iR (eM ePair) x3), (10, .obj [iR eI x4.Base, iR eI x4.Val, iR eI x4.Chk]), (11, I64 s5), (12, I64 s10), (13, I64 0), (14, BB false), (47, BB c16)] ?_ ?_
            · refine Rv (O.mv (.lit rfl)) <| Rv (O.geq (.lit rfl) (.k rfl)) <| Rv (O.mv (.lit rfl)) ?_
              rcases cnd hj with ⟨hb15, hj⟩ | ⟨hb15, hj⟩
              · obtain rfl := sm hj
                exact RunL.v (O.mv (.lit rfl)) rfl rfl (.yb rfl rfl hb15) <| RunL.v (O.mv (.imm rfl)) rfl rfl (.yb rfl rfl hb15) <| RunL.v (O.lenI (.imm rfl) sl78) rfl rfl (.yb rfl rfl hb15) <| RunL.v (O.lss (.lit rfl) (.lit rfl)) rfl rfl (.yb rfl rfl hb15) <| Rv (O.pkT (.lit rfl) hb15 (.lit rfl)) <| RunL.fin (.n rfl (.n rfl (.n rfl (.n rfl (.n rfl (.n rfl (.n rfl (.n rfl (.n rfl .nil)))))))))
              · obtain rfl := sm hj
                exact RunL.ps rfl rfl hb15 rfl rfl <| RunL.ps rfl rfl hb15 rfl rfl <| RunL.ps rfl rfl hb15 rfl rfl <| RunL.ps rfl rfl hb15 rfl rfl <| Rv (O.pkF (.lit rfl) hb15 (.k rfl)) <| RunL.fin (.n rfl (.n rfl (.n rfl (.n rfl (.n rfl (.n rfl (.n rfl (.n rfl (.n rfl .nil)))))))))
            refine Px.sq ?_
            obtain ⟨j17, hj, h⟩ := bnd h
            refine W.jn [(2, I64 a2), (3, I64 a3), (9, iR (eM ePair) x3), (10, .obj [iR eI x4.Base, iR eI x4.Val, iR eI x4.Chk]), (11, I64 s5), (12, I64 s10), (13, I64 j17.1), (14, BB j17.2)] ?_ ?_
            · clear h; have h := hj; clear hj
              refine W.cnd rfl (fun hb18 => ?_) (fun hb18 => ?_)
              · replace h := cndT hb18 h
                obtain ⟨x19, hx19, h⟩ := bnd h
                obtain ⟨x20, hx20, h⟩ := bnd h
                refine W.rx [(2, _), (3, _), (9, _), (10, _), (11, _), (12, _), (13, _), (14, _)] (Rv (O.mv (.imm rfl)) <| Rv (O.mv (.lit rfl)) <| Rv (O.ixI (.imm rfl) (.lit rfl) sl78 hx19) <| Rv (O.ldI (x := iR ePair x19) (.iptr rfl) ct53 rfl) <| Rv (O.mv (.lit rfl)) <| Rc (PC.go (.cc (.imm rfl) (.cc (.lit rfl) .nil)) (con43 x19 s10 _ hx20) call43 rfl) <| Rv (O.mv (.tupF rfl rfl)) <| Rv (O.ex (y := I64 x20.1) rfl rfl rfl) <| Rv (O.ex (y := BB x20.2) rfl rfl rfl) <| RunL.re (G1 := [(2, I64 a2), (3, I64 a3), (9, iR (eM ePair) x3), (10, .obj [iR eI x4.Base, iR eI x4.Val, iR eI x4.Chk]), (11, I64 s5), (12, I64 s10), (55, I64 x20.1), (56, BB x20.2)]) (.n rfl (.n rfl (.n rfl (.n rfl (.n rfl (.n rfl (.n rfl (.n rfl .nil)))))))) <| Rv (O.as (.lit rfl)) <| Rv (O.as (.lit rfl)) <| RunL.fin (.n rfl (.n rfl (.n rfl (.n rfl (.n rfl (.n rfl (.n rfl (.n rfl .nil))))))))) ?_
                obtain rfl := sm h
                exact Px.jn (.n rfl (.n rfl (.n rfl (.n rfl (.n rfl (.n rfl (.n rfl (.n rfl .nil))))))))
              · replace h := cndF hb18 h
                refine W.sk ?_
                obtain rfl := sm h
                exact Px.jn (.n rfl (.n rfl (.n rfl (.n rfl (.n rfl (.n rfl (.n rfl (.n rfl .nil))))))))
            refine Px.sq ?_
            refine W.sq' ?_
            obtain ⟨x21, hx21, h⟩ := bnd h
            refine W.rx [(2, _), (3, _), (9, _), (10, _), (11, _), (12, _), (13, _), (14, _), (15, _), (16, _)] (Rv (O.ldON (cs' := [iR eI x4.Base, iR eI x4.Val, iR eI x4.Chk]) rfl (.obj rfl) at83 rfl rfl) <| Rv (O.mv (.lit rfl)) <| Rv (O.mv (.lit rfl)) <| Rc (PC.go (.cc (.aggF rfl rfl) (.cc (.lit rfl) (.cc (.lit rfl) .nil))) (con44 x4 s5 s10 _ hx21) call44 rfl) <| Rv (O.mv (.tupF rfl rfl)) <| Rv (O.ex (y := I64 x21.1) rfl rfl rfl) <| Rv (O.ex (y := BB x21.2) rfl rfl rfl) <| Rv (O.as (.lit rfl)) <| Rv (O.as (.lit rfl)) <| RunL.fin (.n rfl (.n rfl (.n rfl (.n rfl (.n rfl (.n rfl (.n rfl (.n rfl (.n rfl (.n rfl .nil))))))))))) ?_
            refine Px.sq ?_
            refine W.sq' ?_
            obtain ⟨c23, hj, h⟩ := bnd h
            refine W.rx [(2, I64 a2), (3, I64 a3), (9, iR (eM ePair) x3), (10, .obj [iR eI x4.Base, iR eI x4.Val, iR eI x4.Chk]), (11, I64 s5), (12, I64 s10), (71, BB c23)] ?_ ?_
            · refine Rv (O.mv (.lit rfl)) <| Rv (O.mv (.lit rfl)) <| Rv (O.neq (.lit rfl) (.lit rfl)) <| Rv (O.mv (.lit rfl)) ?_
              rcases cnd hj with ⟨hb22, hj⟩ | ⟨hb22, hj⟩
              · obtain rfl := sm hj
                exact RunL.ps rfl rfl hb22 rfl rfl <| RunL.ps rfl rfl hb22 rfl rfl <| RunL.ps rfl rfl hb22 rfl rfl <| Rv (O.pkT (.lit rfl) hb22 (.k rfl)) <| RunL.fin (.n rfl (.n rfl (.n rfl (.n rfl (.n rfl (.n rfl (.n rfl .nil)))))))
              · obtain rfl := sm hj
                exact RunL.v (O.mv (.lit rfl)) rfl rfl (.yb rfl rfl hb22) <| RunL.v (O.mv (.lit rfl)) rfl rfl (.yb rfl rfl hb22) <| RunL.v (O.neB (.lit rfl) (.lit rfl) bt4) rfl rfl (.yb rfl rfl hb22) <| Rv (O.pkF (.lit rfl) hb22 (.lit rfl)) <| RunL.fin (.n rfl (.n rfl (.n rfl (.n rfl (.n rfl (.n rfl (.n rfl .nil)))))))
            refine Px.sq ?_
            refine W.cnd rfl (fun hb24 => ?_) (fun hb24 => ?_)
            · replace h := cndT hb24 h
              refine W.sq' ?_
              refine W.rx [(8, _)] (Rv (O.as (.k rfl)) <| RunL.fin (.n rfl .nil)) ?_
              refine Px.sq ?_
              refine W.rt ?_
              refine Px.bkR ?_
              refine Px.sqR ?_
              obtain rfl := sm h
              exact Px.r2 (.n rfl .nil)
            · replace h := cndF hb24 h
              refine W.sk ?_
              refine Px.bk ?_
              refine Px.sq ?_
              refine W.rx [(2, _), (3, _), (9, _), (10, _), (11, _), (12, _)] (Rv (O.mv (.lit rfl)) <| Rv (O.add (.lit rfl) (.k rfl)) <| RunL.re (G1 := [(2, I64 a2), (3, I64 a3), (9, iR (eM ePair) x3), (10, .obj [iR eI x4.Base, iR eI x4.Val, iR eI x4.Chk]), (11, I64 s5), (39, I64 (w64 (s10 + 1)))]) (.n rfl (.n rfl (.n rfl (.n rfl (.n rfl (.n rfl .nil)))))) <| Rv (O.as (.lit rfl)) <| RunL.fin (.n rfl (.n rfl (.n rfl (.n rfl (.n rfl (.n rfl .nil))))))) ?_
              obtain rfl := sm h
              exact Px.go (.n rfl (.n rfl (.n rfl (.n rfl (.n rfl (.n rfl .nil))))))
          · replace h := cndF hb14 h
            refine W.xi ?_
            refine Px.sqE ?_
            obtain rfl := sm h
            exact Px.x2 (.n rfl (.n rfl (.n rfl (.n rfl (.n rfl .nil)))))
        · subst hx
          refine Px.bkH ?_
          refine Px.sq ?_
          refine W.sq' ?_
          refine W.rx [(2, _), (3, _), (9, _), (10, _), (11, _), (17, _), (18, _)] (Rv (O.as (.k rfl)) <| Rv (O.as (.k rfl)) <| RunL.fin (.n rfl (.n rfl (.n rfl (.n rfl (.n rfl (.n rfl (.n rfl .nil)))))))) ?_
          refine Px.sq ?_
          refine W.sq' ?_
          refine W.sq' ?_
          obtain ⟨c26, hj, h⟩ := bnd h
          refine W.rx [(2, I64 a2), (3, I64 a3), (9, iR (eM ePair) x3), (10, .obj [iR eI x4.Base, iR eI x4.Val, iR eI x4.Chk]), (11, I64 s5), (17, I64 0), (18, BB false), (79, BB c26)] ?_ ?_
          · refine Rv (O.mv (.lit rfl)) <| Rv (O.geq (.lit rfl) (.k rfl)) <| Rv (O.mv (.lit rfl)) ?_
            rcases cnd hj with ⟨hb25, hj⟩ | ⟨hb25, hj⟩
            · obtain rfl := sm hj
              exact RunL.v (O.mv (.lit rfl)) rfl rfl (.yb rfl rfl hb25) <| RunL.v (O.mv (.imm rfl)) rfl rfl (.yb rfl rfl hb25) <| RunL.v (O.lenI (.imm rfl) sl78) rfl rfl (.yb rfl rfl hb25) <| RunL.v (O.lss (.lit rfl) (.lit rfl)) rfl rfl (.yb rfl rfl hb25) <| Rv (O.pkT (.lit rfl) hb25 (.lit rfl)) <| RunL.fin (.n rfl (.n rfl (.n rfl (.n rfl (.n rfl (.n rfl (.n rfl (.n rfl .nil))))))))
            · obtain rfl := sm hj
              exact RunL.ps rfl rfl hb25 rfl rfl <| RunL.ps rfl rfl hb25 rfl rfl <| RunL.ps rfl rfl hb25 rfl rfl <| RunL.ps rfl rfl hb25 rfl rfl <| Rv (O.pkF (.lit rfl) hb25 (.k rfl)) <| RunL.fin (.n rfl (.n rfl (.n rfl (.n rfl (.n rfl (.n rfl (.n rfl (.n rfl .nil))))))))
          refine Px.sq ?_
          obtain ⟨j27, hj, h⟩ := bnd h
          refine W.jn [(2, I64 a2), (3, I64 a3), (9, iR (eM ePair) x3), (10, .obj [iR eI x4.Base, iR eI x4.Val, iR eI x4.Chk]), (11, I64 s5), (17, I64 j27.1), (18, BB j27.2)] ?_ ?_
          · clear h; have h := hj; clear hj
            refine W.cnd rfl (fun hb28 => ?_) (fun hb28 => ?_)
            · replace h := cndT hb28 h
              obtain ⟨x29, hx29, h⟩ := bnd h
              obtain ⟨x30, hx30, h⟩ := bnd h
              refine W.rx [(2, _), (3, _), (9, _), (10, _), (11, _), (17, _), (18, _)] (Rv (O.mv (.imm rfl)) <| Rv (O.mv (.lit rfl)) <| Rv (O.ixI (.imm rfl) (.lit rfl) sl78 hx29) <| Rv (O.ldI (x := iR ePair x29) (.iptr rfl) ct53 rfl) <| Rv (O.mv (.lit rfl)) <| Rc (PC.go (.cc (.imm rfl) (.cc (.lit rfl) .nil)) (con43 x29 a3 _ hx30) call43 rfl) <| Rv (O.mv (.tupF rfl rfl)) <| Rv (O.ex (y := I64 x30.1) rfl rfl rfl) <| Rv (O.ex (y := BB x30.2) rfl rfl rfl) <| RunL.re (G1 := [(2, I64 a2), (3, I64 a3), (9, iR (eM ePair) x3), (10, .obj [iR eI x4.Base, iR eI x4.Val, iR eI x4.Chk]), (11, I64 s5), (87, I64 x30.1), (88, BB x30.2)]) (.n rfl (.n rfl (.n rfl (.n rfl (.n rfl (.n rfl (.n rfl .nil))))))) <| Rv (O.as (.lit rfl)) <| Rv (O.as (.lit rfl)) <| RunL.fin (.n rfl (.n rfl (.n rfl (.n rfl (.n rfl (.n rfl (.n rfl .nil)))))))) ?_
              obtain rfl := sm h
              exact Px.jn (.n rfl (.n rfl (.n rfl (.n rfl (.n rfl (.n rfl (.n rfl .nil)))))))
            · replace h := cndF hb28 h
              refine W.sk ?_
              obtain rfl := sm h
              exact Px.jn (.n rfl (.n rfl (.n rfl (.n rfl (.n rfl (.n rfl (.n rfl .nil)))))))
          refine Px.sq ?_
          refine W.sq' ?_
          obtain ⟨x31, hx31, h⟩ := bnd h
          refine W.rx [(2, _), (3, _), (9, _), (10, _), (11, _), (17, _), (18, _), (19, _), (20, _)] (Rv (O.ldON (cs' := [iR eI x4.Base, iR eI x4.Val, iR eI x4.Chk]) rfl (.obj rfl) at83 rfl rfl) <| Rv (O.mv (.lit rfl)) <| Rv (O.mv (.lit rfl)) <| Rc (PC.go (.cc (.aggF rfl rfl) (.cc (.lit rfl) (.cc (.lit rfl) .nil))) (con44 x4 s5 a3 _ hx31) call44 rfl) <| Rv (O.mv (.tupF rfl rfl)) <| Rv (O.ex (y := I64 x31.1) rfl rfl rfl) <| Rv (O.ex (y := BB x31.2) rfl rfl rfl) <| Rv (O.as (.lit rfl)) <| Rv (O.as (.lit rfl)) <| RunL.fin (.n rfl (.n rfl (.n rfl (.n rfl (.n rfl (.n rfl (.n rfl (.n rfl (.n rfl .nil)))))))))) ?_
          refine Px.sq ?_
          refine W.sq' ?_
          obtain ⟨c33, hj, h⟩ := bnd h
          refine W.rx [(2, I64 a2), (3, I64 a3), (9, iR (eM ePair) x3), (10, .obj [iR eI x4.Base, iR eI x4.Val, iR eI x4.Chk]), (11, I64 s5), (103, BB c33)] ?_ ?_
          · refine Rv (O.mv (.lit rfl)) <| Rv (O.mv (.lit rfl)) <| Rv (O.neq (.lit rfl) (.lit rfl)) <| Rv (O.mv (.lit rfl)) ?_
            rcases cnd hj with ⟨hb32, hj⟩ | ⟨hb32, hj⟩
            · obtain rfl := sm hj
              exact RunL.ps rfl rfl hb32 rfl rfl <| RunL.ps rfl rfl hb32 rfl rfl <| RunL.ps rfl rfl hb32 rfl rfl <| Rv (O.pkT (.lit rfl) hb32 (.k rfl)) <| RunL.fin (.n rfl (.n rfl (.n rfl (.n rfl (.n rfl (.n rfl .nil))))))
            · obtain rfl := sm hj
              exact RunL.v (O.mv (.lit rfl)) rfl rfl (.yb rfl rfl hb32) <| RunL.v (O.mv (.lit rfl)) rfl rfl (.yb rfl rfl hb32) <| RunL.v (O.neB (.lit rfl) (.lit rfl) bt4) rfl rfl (.yb rfl rfl hb32) <| Rv (O.pkF (.lit rfl) hb32 (.lit rfl)) <| RunL.fin (.n rfl (.n rfl (.n rfl (.n rfl (.n rfl (.n rfl .nil))))))
          refine Px.sq ?_
          refine W.cnd rfl (fun hb34 => ?_) (fun hb34 => ?_)
          · replace h := cndT hb34 h
            refine W.sq' ?_
            refine W.rx [(8, _)] (Rv (O.as (.k rfl)) <| RunL.fin (.n rfl .nil)) ?_
            refine Px.sq ?_
            refine W.rt ?_
            refine Px.bkR ?_
            refine Px.sqR ?_
            obtain rfl := sm h
            exact Px.r2 (.n rfl .nil)
          · replace h := cndF hb34 h
            refine W.sk ?_
            refine Px.bk ?_
            refine Px.sq ?_
            refine W.rx [(2, _), (3, _), (9, _), (10, _), (11, _)] (Rv (O.mv (.lit rfl)) <| Rv (O.add (.lit rfl) (.k rfl)) <| RunL.re (G1 := [(2, I64 a2), (3, I64 a3), (9, iR (eM ePair) x3), (10, .obj [iR eI x4.Base, iR eI x4.Val, iR eI x4.Chk]), (35, I64 (w64 (s5 + 1)))]) (.n rfl (.n rfl (.n rfl (.n rfl (.n rfl .nil))))) <| Rv (O.as (.lit rfl)) <| RunL.fin (.n rfl (.n rfl (.n rfl (.n rfl (.n rfl .nil)))))) ?_
            obtain rfl := sm h
            exact Px.go (.n rfl (.n rfl (.n rfl (.n rfl (.n rfl .nil)))))
        · subst hx
          refine Px.bkR ?_
          refine Px.sqR ?_
          refine Px.bkR ?_
          refine Px.sqR ?_
          obtain rfl := sm h
          exact Px.r2 (.n rfl .nil)
      · replace h := cndF hb9 h
        refine W.xi ?_
        refine Px.sqE ?_
        obtain rfl := sm h
        exact Px.x2 (.n rfl (.n rfl (.n rfl .nil)))
    · subst hx
      refine Px.bkH ?_
      refine Px.sq ?_
      refine W.sq' ?_
      obtain ⟨x35, hx35, h⟩ := bnd h
      refine W.rx [(2, _), (9, _), (22, _)] (Rv (O.ldON (cs' := [iR eI x4.Base, iR eI x4.Val, iR eI x4.Chk]) rfl (.obj rfl) at83 rfl rfl) <| Rv (O.mv (.lit rfl)) <| Rc (PC.go (.cc (.aggF rfl rfl) (.cc (.lit rfl) (.cc (.k rfl) .nil))) (con44 x4 a2 0 _ hx35) call44 rfl) <| Rv (O.mv (.tupF rfl rfl)) <| Rv (O.ex (y := I64 x35.1) rfl rfl rfl) <| Rv (O.ex (y := BB x35.2) rfl rfl rfl) <| Rv (O.as (.lit rfl)) <| Rv (O.as (.lit rfl)) <| RunL.fin (.n rfl (.n rfl (.n rfl .nil)))) ?_
      refine Px.sq ?_
      refine W.sq' ?_
      obtain ⟨c38, hj, h⟩ := bnd h
      refine W.rx [(8, BB c38)] ?_ ?_
      · refine Rv (O.mv (.lit rfl)) <| Rv (O.geq (.lit rfl) (.k rfl)) <| Rv (O.mv (.lit rfl)) ?_
        rcases cnd hj with ⟨hb36, hj⟩ | ⟨hb36, hj⟩
        · refine RunL.v (O.mv (.lit rfl)) rfl rfl (.yb rfl rfl hb36) <| RunL.v (O.mv (.imm rfl)) rfl rfl (.yb rfl rfl hb36) <| RunL.v (O.lenI (.imm rfl) sl78) rfl rfl (.yb rfl rfl hb36) <| RunL.v (O.lss (.lit rfl) (.lit rfl)) rfl rfl (.yb rfl rfl hb36) <| Rv (O.pkT (.lit rfl) hb36 (.lit rfl)) <| Rv (O.mv (.lit rfl)) ?_
          rcases cnd hj with ⟨hb37, hj⟩ | ⟨hb37, hj⟩
          · obtain rfl := sm hj
            exact RunL.ps rfl rfl hb37 rfl rfl <| RunL.ps rfl rfl hb37 rfl rfl <| Rv (O.pkT (.lit rfl) hb37 (.k rfl)) <| Rv (O.as (.lit rfl)) <| RunL.fin (.n rfl .nil)
          · obtain rfl := sm hj
            exact RunL.v (O.mv (.lit rfl)) rfl rfl (.yb rfl rfl hb37) <| RunL.v (O.not (.lit rfl)) rfl rfl (.yb rfl rfl hb37) <| Rv (O.pkF (.lit rfl) hb37 (.lit rfl)) <| Rv (O.as (.lit rfl)) <| RunL.fin (.n rfl .nil)
        · obtain rfl := sm hj
          exact RunL.ps rfl rfl hb36 rfl rfl <| RunL.ps rfl rfl hb36 rfl rfl <| RunL.ps rfl rfl hb36 rfl rfl <| RunL.ps rfl rfl hb36 rfl rfl <| Rv (O.pkF (.lit rfl) hb36 (.k rfl)) <| Rv (O.mv (.lit rfl)) <| RunL.v (O.mv (.lit rfl)) rfl rfl (.yb rfl rfl rfl) <| RunL.v (O.not (.lit rfl)) rfl rfl (.yb rfl rfl rfl) <| Rv (O.pkF (.lit rfl) rfl (.lit rfl)) <| Rv (O.as (.lit rfl)) <| RunL.fin (.n rfl .nil)
      refine Px.sq ?_
      refine W.rt ?_
      obtain rfl := sm h
      exact Px.fin (Fin.ro (.f rfl rfl .nil) rfl (of_decide_eq_true (by kernel_rfl)) (.no (.no (.no (.no .nil)))) rfl (.inr rfl))
    · subst hx
      refine Px.bkR ?_
      refine Px.sqR ?_
      obtain rfl := sm h
      exact Px.fin (Fin.ro (.f rfl rfl .nil) rfl (of_decide_eq_true (by kernel_rfl)) (.no (.no (.no (.no .nil)))) rfl (.inr rfl))
def pf10 (a0 : (List (List Int))) (a1 : Int) : Option (Bool) :=
 (pf37 ).bind fun x1 =>
 (bif !x1 then
 some false
 else
 (pf38 a0 a1).bind fun x3 =>
 (pf41 x3).bind fun x4 =>
 ((bif !decide ((x4.Base.length : Int) = (x3.length : Int)) then some true else some (!decide ((x4.Val.length : Int) = (x4.Chk.length : Int))))).bind fun c6 =>
 (bif c6 then
 some false
 else
 (loopM (R := (Int) ⊕ (Bool)) (fun (s8 : Int × Int) =>
 (bif decide (s8.2 < (x3.length : Int)) then
 (((idx x4.Base s8.2).bind fun x13 => (bif decide (x13 < 0) then some true else ((idx x3 s8.2).bind fun x15 => (bif decide ((x15.length : Int) = 0) then ((idx x4.Base s8.2).bind fun x17 => some (!decide (x17 = 0))) else some false))))).bind fun c18 =>
 (bif c18 then
 some (.inr (.inr false))
 else
 (loopM (R := (Int) ⊕ (Bool)) (fun (s20 : Int × Int) =>
 (idx x3 s8.2).bind fun x24 =>
 (bif decide (s20.2 < (x24.length : Int)) then
 (idx x4.Base s8.2).bind fun x26 =>
 (idx x3 s8.2).bind fun x27 =>
 (idx x27 s20.2).bind fun x28 =>
 ((bif decide ((x4.Chk.length : Int) ≤ w64 (x26 + x28.At)) then some true else ((idx x4.Chk (w64 (x26 + x28.At))).bind fun x30 => (bif !decide (x30 = w64 (s8.2 + 1)) then some true else ((idx x4.Val (w64 (x26 + x28.At))).bind fun x32 => ((idx x3 s8.2).bind fun x33 => ((idx x33 s20.2).bind fun x34 => some (!decide (x32 = x34.Val))))))))).bind fun c35 =>
 (bif c35 then
 some (.inr (.inr false))
 else
 some (.inl (w64 (s20.1 + 1), w64 (s20.2 + 1))))
 else
 some (.inr (.inl s20.1)))) (s8.1, 0)).bind fun x21 =>
 (match x21 with
 | .inl x22 =>
 some (.inl (x22, w64 (s8.2 + 1)))
 | .inr x23 =>
 some (.inr (.inr x23))))
 else
 some (.inr (.inl s8.1)))) (0, 0)).bind fun x9 =>
 (match x9 with
 | .inl x10 =>
 (loopM (R := (Int) ⊕ (Bool)) (fun (s37 : Int × Int) =>
 (bif decide (s37.2 < (x4.Chk.length : Int)) then
 (idx x4.Chk s37.2).bind fun x42 =>
 (bif !decide (x42 = 0) then
 some (.inl (w64 (s37.1 + 1), w64 (s37.2 + 1)))
 else
 (((idx x4.Val s37.2).bind fun x44 => (bif !decide (x44 = 0) then some true else some (decide (w64 (s37.2 + 1) = (x4.Chk.length : Int)))))).bind fun c46 =>
 (bif c46 then
 some (.inr (.inr false))
 else
 some (.inl (s37.1, w64 (s37.2 + 1)))))
 else
 some (.inr (.inl s37.1)))) (0, 0)).bind fun x38 =>
 (match x38 with
 | .inl x39 =>
 some (decide (x10 = x39))
 | .inr x40 =>
 some x40)
 | .inr x11 =>
 some x11)))
theorem con10 (a0 : (List (List Int))) (a1 : Int) (r : Bool) (h : pf10 a0 a1 = some r) : Con Try.prog 10 [iR (eM eI) a0, I64 a1] [none, none] (BB r) := by
  unfold pf10 at h
  refine Con.go (N := ⟨151, []⟩) Try.func10 rfl rfl rfl rfl (W.fin ?_)
  refine W.st [(0, iR (eM eI) a0), (1, I64 a1)] ?_
  refine W.sq' ?_
  refine W.rx [(0, _), (1, _)] (Rv (O.as (.k rfl)) <| RunL.fin (.n rfl (.n rfl .nil))) ?_
  refine Px.sq ?_
  refine W.sq' ?_
  refine W.sq' ?_
  obtain ⟨x1, hx1, h⟩ := bnd h
  refine W.rx [(0, _), (1, _), (14, _)] (Rc (PC.go .nil (con37  _ hx1) call37 rfl) <| Rv (O.not (.lit rfl)) <| RunL.fin (.n rfl (.n rfl (.n rfl .nil)))) ?_
  refine Px.sq ?_
  refine W.cnd rfl (fun hb2 => ?_) (fun hb2 => ?_)
  · replace h := cndT hb2 h
    refine W.sq' ?_
    refine W.rx [(4, _)] (Rv (O.as (.k rfl)) <| RunL.fin (.n rfl .nil)) ?_
    refine Px.sq ?_
    refine W.rt ?_
    refine Px.sqR ?_
    obtain rfl := sm h
    exact Px.fin (Fin.ro (.f rfl rfl .nil) rfl (of_decide_eq_true (by kernel_rfl)) (.no (.no .nil)) rfl (.inr rfl))
  · replace h := cndF hb2 h
    refine W.sk ?_
    refine Px.sq ?_
    refine W.sq' ?_
    obtain ⟨x3, hx3, h⟩ := bnd h
    refine W.rx [(5, _)] (Rv (O.mv (.imm rfl)) <| Rv (O.mv (.lit rfl)) <| Rc (PC.go (.cc (.imm rfl) (.cc (.lit rfl) .nil)) (con38 a0 a1 _ hx3) call38 rfl) <| Rv (O.as (.imm rfl)) <| RunL.fin (.n rfl .nil)) ?_
    refine Px.sq ?_
    refine W.sq' ?_
    obtain ⟨x4, hx4, h⟩ := bnd h
    refine W.rx [(5, _), (6, _)] (Rv (O.mv (.imm rfl)) <| Rc (PC.go (.cc (.imm rfl) .nil) (con41 x3 _ hx4) call41 rfl) <| Rv (O.al (cs := [.nils, .nils, .nils]) ze83 rfl rfl) <| RunL.sO (G2 := [(5, iR (eM ePair) x3), (6, .obj [iR eI x4.Base, iR eI x4.Val, iR eI x4.Chk])]) (cs2 := [iR eI x4.Base, iR eI x4.Val, iR eI x4.Chk]) rfl (.obj rfl) (.aggF rfl rfl) rfl sz83 rfl rfl rfl rfl (.n rfl rfl (.b rfl .nil)) <| RunL.fin (.n rfl (.n rfl .nil))) ?_
    refine Px.sq ?_
    refine W.sq' ?_
    refine W.sq' ?_
    obtain ⟨c6, hj, h⟩ := bnd h
    refine W.rx [(5, iR (eM ePair) x3), (6, .obj [iR eI x4.Base, iR eI x4.Val, iR eI x4.Chk]), (34, BB c6)] ?_ ?_
    · refine Rv (O.fO rfl (.obj rfl) fd83_0 rfl) <| Rv (O.ldO (y := iR eI x4.Base) rfl (.ptr rfl) ct33 rfl rfl) <| Rv (O.lenI (.imm rfl) sl33) <| Rv (O.mv (.imm rfl)) <| Rv (O.lenI (.imm rfl) sl78) <| Rv (O.neq (.lit rfl) (.lit rfl)) <| Rv (O.mv (.lit rfl)) ?_
      rcases cnd hj with ⟨hb5, hj⟩ | ⟨hb5, hj⟩
      · obtain rfl := sm hj
        exact RunL.ps rfl rfl hb5 rfl rfl <| RunL.ps rfl rfl hb5 rfl rfl <| RunL.ps rfl rfl hb5 rfl rfl <| RunL.ps rfl rfl hb5 rfl rfl <| RunL.ps rfl rfl hb5 rfl rfl <| RunL.ps rfl rfl hb5 rfl rfl <| RunL.ps rfl rfl hb5 rfl rfl <| Rv (O.pkT (.lit rfl) hb5 (.k rfl)) <| RunL.fin (.n rfl (.n rfl (.n rfl .nil)))
      · obtain rfl := sm hj
        exact RunL.v (O.fO rfl (.obj rfl) fd83_1 rfl) rfl rfl (.yb rfl rfl hb5) <| RunL.v (O.ldO (y := iR eI x4.Val) rfl (.ptr rfl) ct33 rfl rfl) rfl rfl (.yb rfl rfl hb5) <| RunL.v (O.lenI (.imm rfl) sl33) rfl rfl (.yb rfl rfl hb5) <| RunL.v (O.fO rfl (.obj rfl) fd83_2 rfl) rfl rfl (.yb rfl rfl hb5) <| RunL.v (O.ldO (y := iR eI x4.Chk) rfl (.ptr rfl) ct33 rfl rfl) rfl rfl (.yb rfl rfl hb5) <| RunL.v (O.lenI (.imm rfl) sl33) rfl rfl (.yb rfl rfl hb5) <| RunL.v (O.neq (.lit rfl) (.lit rfl)) rfl rfl (.yb rfl rfl hb5) <| Rv (O.pkF (.lit rfl) hb5 (.lit rfl)) <| RunL.fin (.n rfl (.n rfl (.n rfl .nil)))
    refine Px.sq ?_
    refine W.cnd rfl (fun hb7 => ?_) (fun hb7 => ?_)
    · replace h := cndT hb7 h
      refine W.sq' ?_
      refine W.rx [(4, _)] (Rv (O.as (.k rfl)) <| RunL.fin (.n rfl .nil)) ?_
      refine Px.sq ?_
      refine W.rt ?_
      refine Px.sqR ?_
      obtain rfl := sm h
      exact Px.fin (Fin.ro (.f rfl rfl .nil) rfl (of_decide_eq_true (by kernel_rfl)) (.no (.no .nil)) rfl (.inr rfl))
    · replace h := cndF hb7 h
      refine W.sk ?_
      refine Px.sq ?_
      refine W.sq' ?_
      refine W.rx [(5, _), (6, _), (7, _), (8, _)] (Rv (O.as (.k rfl)) <| Rv (O.as (.k rfl)) <| RunL.fin (.n rfl (.n rfl (.n rfl (.n rfl .nil))))) ?_
      refine Px.sq ?_
      refine W.sq' ?_
      refine W.sq' ?_
      refine W.rx [(5, _), (6, _), (7, _), (8, _), (9, _)] (Rv (O.as (.k rfl)) <| RunL.fin (.n rfl (.n rfl (.n rfl (.n rfl (.n rfl .nil)))))) ?_
      refine Px.sq ?_
      refine W.bk ?_
      obtain ⟨x9, hl, h⟩ := bnd h
      refine W.tr (G1 := [(5, iR (eM ePair) x3), (6, .obj [iR eI x4.Base, iR eI x4.Val, iR eI x4.Chk]), (7, I64 0), (8, I64 0), (9, I64 0)]) (.n rfl (.n rfl (.n rfl (.n rfl (.n rfl .nil))))) ?_
      refine W.lp2 (s := (0, 0)) (fun (s8 : Int × Int) => [(5, iR (eM ePair) x3), (6, .obj [iR eI x4.Base, iR eI x4.Val, iR eI x4.Chk]), (7, I64 s8.1), (8, I64 0), (9, I64 s8.2)]) 0 (fun (x10 : Int) => [(6, .obj [iR eI x4.Base, iR eI x4.Val, iR eI x4.Chk]), (7, I64 x10), (8, I64 0)]) (fun (x11 : Bool) => [(4, BB x11)]) hl (fun s8 o h => ?_) (fun x10 hx => ?_) (fun x11 hx => ?_)
      · clear hl
        refine W.sq' ?_
        refine W.sq' ?_
        refine W.rx [(5, _), (6, _), (7, _), (8, _), (9, _), (38, _)] (Rv (O.mv (.lit rfl)) <| Rv (O.mv (.imm rfl)) <| Rv (O.lenI (.imm rfl) sl78) <| Rv (O.lss (.lit rfl) (.lit rfl)) <| RunL.fin (.n rfl (.n rfl (.n rfl (.n rfl (.n rfl (.n rfl .nil))))))) ?_
        refine Px.sq ?_
        refine W.cnd rfl (fun hb12 => ?_) (fun hb12 => ?_)
        · replace h := cndT hb12 h
          refine W.sk ?_
          refine Px.sq ?_
          refine W.sq' ?_
          refine W.bk ?_
          refine W.sq' ?_
          refine W.sq' ?_
          obtain ⟨c18, hj, h⟩ := bnd h
          refine W.rx [(5, iR (eM ePair) x3), (6, .obj [iR eI x4.Base, iR eI x4.Val, iR eI x4.Chk]), (7, I64 s8.1), (8, I64 0), (9, I64 s8.2), (62, BB c18)] ?_ ?_
          · refine Rv (O.fO rfl (.obj rfl) fd83_0 rfl) <| Rv (O.ldO (y := iR eI x4.Base) rfl (.ptr rfl) ct33 rfl rfl) <| Rv (O.mv (.lit rfl)) ?_
            obtain ⟨x13, hx13, hj⟩ := bnd hj
            refine Rv (O.ixI (.imm rfl) (.lit rfl) sl33 hx13) <| Rv (O.ldI (x := I64 x13) (.iptr rfl) ct3 rfl) <| Rv (O.lss (.lit rfl) (.k rfl)) <| Rv (O.mv (.lit rfl)) ?_
            rcases cnd hj with ⟨hb14, hj⟩ | ⟨hb14, hj⟩
            · obtain rfl := sm hj
              exact RunL.ps rfl rfl hb14 rfl rfl <| RunL.ps rfl rfl hb14 rfl rfl <| RunL.ps rfl rfl hb14 rfl rfl <| RunL.ps rfl rfl hb14 rfl rfl <| RunL.ps rfl rfl hb14 rfl rfl <| RunL.ps rfl rfl hb14 rfl rfl <| RunL.ps rfl rfl hb14 rfl rfl <| RunL.pu rfl rfl rfl rfl <| RunL.pu rfl rfl rfl rfl <| RunL.pu rfl rfl rfl rfl <| RunL.pu rfl rfl rfl rfl <| RunL.pu rfl rfl rfl rfl <| RunL.pu rfl rfl rfl rfl <| RunL.ps rfl rfl hb14 rfl rfl <| Rv (O.pkT (.lit rfl) hb14 (.k rfl)) <| RunL.fin (.n rfl (.n rfl (.n rfl (.n rfl (.n rfl (.n rfl .nil))))))
            · refine RunL.v (O.mv (.imm rfl)) rfl rfl (.yb rfl rfl hb14) <| RunL.v (O.mv (.lit rfl)) rfl rfl (.yb rfl rfl hb14) ?_
              obtain ⟨x15, hx15, hj⟩ := bnd hj
              refine RunL.v (O.ixI (.imm rfl) (.lit rfl) sl78 hx15) rfl rfl (.yb rfl rfl hb14) <| RunL.v (O.ldI (x := iR ePair x15) (.iptr rfl) ct53 rfl) rfl rfl (.yb rfl rfl hb14) <| RunL.v (O.lenI (.imm rfl) sl53) rfl rfl (.yb rfl rfl hb14) <| RunL.v (O.eql (.lit rfl) (.k rfl)) rfl rfl (.yb rfl rfl hb14) <| RunL.v (O.mv (.lit rfl)) rfl rfl (.yb rfl rfl hb14) ?_
              rcases cnd hj with ⟨hb16, hj⟩ | ⟨hb16, hj⟩
              · refine RunL.v (O.fO rfl (.obj rfl) fd83_0 rfl) rfl rfl (.yb rfl rfl hb16) <| RunL.v (O.ldO (y := iR eI x4.Base) rfl (.ptr rfl) ct33 rfl rfl) rfl rfl (.yb rfl rfl hb16) <| RunL.v (O.mv (.lit rfl)) rfl rfl (.yb rfl rfl hb16) ?_
                obtain ⟨x17, hx17, hj⟩ := bnd hj
                obtain rfl := sm hj
                exact RunL.v (O.ixI (.imm rfl) (.lit rfl) sl33 hx17) rfl rfl (.yb rfl rfl hb16) <| RunL.v (O.ldI (x := I64 x17) (.iptr rfl) ct3 rfl) rfl rfl (.yb rfl rfl hb16) <| RunL.v (O.neq (.lit rfl) (.k rfl)) rfl rfl (.yb rfl rfl hb16) <| RunL.v (O.pkT (.lit rfl) hb16 (.lit rfl)) rfl rfl (.yb rfl rfl hb14) <| Rv (O.pkF (.lit rfl) hb14 (.lit rfl)) <| RunL.fin (.n rfl (.n rfl (.n rfl (.n rfl (.n rfl (.n rfl .nil))))))
              · obtain rfl := sm hj
                exact RunL.ps rfl rfl hb16 rfl rfl <| RunL.ps rfl rfl hb16 rfl rfl <| RunL.ps rfl rfl hb16 rfl rfl <| RunL.ps rfl rfl hb16 rfl rfl <| RunL.ps rfl rfl hb16 rfl rfl <| RunL.ps rfl rfl hb16 rfl rfl <| RunL.v (O.pkF (.lit rfl) hb16 (.k rfl)) rfl rfl (.yb rfl rfl hb14) <| Rv (O.pkF (.lit rfl) hb14 (.lit rfl)) <| RunL.fin (.n rfl (.n rfl (.n rfl (.n rfl (.n rfl (.n rfl .nil))))))
          refine Px.sq ?_
          refine W.cnd rfl (fun hb19 => ?_) (fun hb19 => ?_)
          · replace h := cndT hb19 h
            refine W.sq' ?_
            refine W.rx [(4, _)] (Rv (O.as (.k rfl)) <| RunL.fin (.n rfl .nil)) ?_
            refine Px.sq ?_
            refine W.rt ?_
            refine Px.sqR ?_
            refine Px.bkR ?_
            refine Px.sqR ?_
            obtain rfl := sm h
            exact Px.r2 (.n rfl .nil)
          · replace h := cndF hb19 h
            refine W.sk ?_
            refine Px.sq ?_
            refine W.sq' ?_
            refine W.rx [(5, _), (6, _), (7, _), (8, _), (9, _), (10, _)] (Rv (O.as (.k rfl)) <| RunL.fin (.n rfl (.n rfl (.n rfl (.n rfl (.n rfl (.n rfl .nil))))))) ?_
            refine Px.sq ?_
            refine W.bk ?_
            obtain ⟨x21, hl, h⟩ := bnd h
            refine W.tr (G1 := [(5, iR (eM ePair) x3), (6, .obj [iR eI x4.Base, iR eI x4.Val, iR eI x4.Chk]), (7, I64 s8.1), (8, I64 0), (9, I64 s8.2), (10, I64 0)]) (.n rfl (.n rfl (.n rfl (.n rfl (.n rfl (.n rfl .nil)))))) ?_
            refine W.lp2 (s := (s8.1, 0)) (fun (s20 : Int × Int) => [(5, iR (eM ePair) x3), (6, .obj [iR eI x4.Base, iR eI x4.Val, iR eI x4.Chk]), (7, I64 s20.1), (8, I64 0), (9, I64 s8.2), (10, I64 s20.2)]) 2 (fun (x22 : Int) => [(5, iR (eM ePair) x3), (6, .obj [iR eI x4.Base, iR eI x4.Val, iR eI x4.Chk]), (7, I64 x22), (8, I64 0), (9, I64 s8.2)]) (fun (x23 : Bool) => [(4, BB x23)]) hl (fun s20 o h => ?_) (fun x22 hx => ?_) (fun x23 hx => ?_)
            · clear hl
              refine W.sq' ?_
              refine W.sq' ?_
              obtain ⟨x24, hx24, h⟩ := bnd h
              refine W.rx [(5, _), (6, _), (7, _), (8, _), (9, _), (10, _), (69, _)] (Rv (O.mv (.lit rfl)) <| Rv (O.mv (.imm rfl)) <| Rv (O.mv (.lit rfl)) <| Rv (O.ixI (.imm rfl) (.lit rfl) sl78 hx24) <| Rv (O.ldI (x := iR ePair x24) (.iptr rfl) ct53 rfl) <| Rv (O.lenI (.imm rfl) sl53) <| Rv (O.lss (.lit rfl) (.lit rfl)) <| RunL.fin (.n rfl (.n rfl (.n rfl (.n rfl (.n rfl (.n rfl (.n rfl .nil)))))))) ?_
              refine Px.sq ?_
              refine W.cnd rfl (fun hb25 => ?_) (fun hb25 => ?_)
              · replace h := cndT hb25 h
                refine W.sk ?_
                refine Px.sq ?_
                refine W.sq' ?_
                refine W.bk ?_
                refine W.sq' ?_
                obtain ⟨x26, hx26, h⟩ := bnd h
                obtain ⟨x27, hx27, h⟩ := bnd h
                obtain ⟨x28, hx28, h⟩ := bnd h
                refine W.rd [[], [0], [], [0, 1, 2], [0, 1, 2, 3], [], [], [5, 6], [5, 6, 7], [], rn 5 5 [], rn 5 6 [], rn 5 7 [], rn 0 13 [], rn 0 14 []] [(5, _), (6, _), (7, _), (8, _), (9, _), (10, _), (11, _)] mixo (by kernel_rfl) (Dv 0 (O.fO rfl (.obj rfl) fd83_0 rfl) <| Dv 1 (O.ldO (y := iR eI x4.Base) rfl (.ptr rfl) ct33 rfl rfl) <| Dv 2 (O.mv (.lit rfl)) <| Dv 3 (O.ixI (.imm rfl) (.lit rfl) sl33 hx26) <| Dv 4 (O.ldI (x := I64 x26) (.iptr rfl) ct3 rfl) <| Dv 5 (O.mv (.imm rfl)) <| Dv 6 (O.mv (.lit rfl)) <| Dv 7 (O.ixI (.imm rfl) (.lit rfl) sl78 hx27) <| Dv 8 (O.ldI (x := iR ePair x27) (.iptr rfl) ct53 rfl) <| Dv 9 (O.mv (.lit rfl)) <| Dv 10 (O.ixI (.imm rfl) (.lit rfl) sl53 hx28) <| Dv 11 (O.fI (.iptr rfl) fd61_0) <| Dv 12 (O.ldI (x := I64 x28.At) (.iptr rfl) ct3 rfl) <| Dv 13 (O.add (.lit rfl) (.lit rfl)) <| Dv 14 (O.as (.lit rfl)) <| DL.fin rfl rfl rfl (.n rfl (.n rfl (.n rfl (.n rfl (.n rfl (.n rfl (.n rfl .nil)))))))) ?_
                refine Px.sq ?_
                refine W.sq' ?_
                refine W.sq' ?_
                obtain ⟨c35, hj, h⟩ := bnd h
                refine W.rd [[], [], [1], [1, 2], [0, 1, 2, 3], rn 0 5 [], rn 0 6 [], rn 0 7 [], rn 0 6 [], rn 0 9 [], rn 0 10 [], rn 0 6 [], rn 0 6 [11], rn 0 13 [], rn 0 14 [], rn 0 15 [], rn 0 16 [], rn 0 17 [], rn 0 16 [], rn 0 19 [], rn 0 20 [], rn 0 16 [], rn 0 16 [], rn 0 16 [21, 22], rn 0 16 [21, 22, 23], rn 0 16 [], rn 0 16 (rn 21 5 []), rn 0 16 (rn 21 6 []), rn 0 16 (rn 21 7 []), rn 0 29 [], rn 0 30 []] [(5, iR (eM ePair) x3), (6, .obj [iR eI x4.Base, iR eI x4.Val, iR eI x4.Chk]), (7, I64 s20.1), (8, I64 0), (9, I64 s8.2), (10, I64 s20.2), (116, BB c35)] mixo (by kernel_rfl) ?_ ?_
                · refine Dv 0 (O.mv (.lit rfl)) <| Dv 1 (O.fO rfl (.obj rfl) fd83_2 rfl) <| Dv 2 (O.ldO (y := iR eI x4.Chk) rfl (.ptr rfl) ct33 rfl rfl) <| Dv 3 (O.lenI (.imm rfl) sl33) <| Dv 4 (O.geq (.lit rfl) (.lit rfl)) <| Dv 5 (O.mv (.lit rfl)) ?_
                  rcases cnd hj with ⟨hb29, hj⟩ | ⟨hb29, hj⟩
                  · obtain rfl := sm hj
                    exact DL.ps 6 rfl rfl hb29 rfl rfl rfl rfl <| DL.ps 7 rfl rfl hb29 rfl rfl rfl rfl <| DL.ps 8 rfl rfl hb29 rfl rfl rfl rfl <| DL.ps 9 rfl rfl hb29 rfl rfl rfl rfl <| DL.ps 10 rfl rfl hb29 rfl rfl rfl rfl <| DL.ps 11 rfl rfl hb29 rfl rfl rfl rfl <| DL.ps 12 rfl rfl hb29 rfl rfl rfl rfl <| DL.ps 13 rfl rfl hb29 rfl rfl rfl rfl <| Dv 14 (O.pkT (.lit rfl) hb29 (.k rfl)) <| Dv 15 (O.mv (.lit rfl)) <| DL.ps 16 rfl rfl rfl rfl rfl rfl rfl <| DL.ps 17 rfl rfl rfl rfl rfl rfl rfl <| DL.ps 18 rfl rfl rfl rfl rfl rfl rfl <| DL.ps 19 rfl rfl rfl rfl rfl rfl rfl <| DL.ps 20 rfl rfl rfl rfl rfl rfl rfl <| DL.ps 21 rfl rfl rfl rfl rfl rfl rfl <| DL.ps 22 rfl rfl rfl rfl rfl rfl rfl <| DL.ps 23 rfl rfl rfl rfl rfl rfl rfl <| DL.ps 24 rfl rfl rfl rfl rfl rfl rfl <| DL.ps 25 rfl rfl rfl rfl rfl rfl rfl <| DL.ps 26 rfl rfl rfl rfl rfl rfl rfl <| DL.ps 27 rfl rfl rfl rfl rfl rfl rfl <| DL.ps 28 rfl rfl rfl rfl rfl rfl rfl <| DL.ps 29 rfl rfl rfl rfl rfl rfl rfl <| Dv 30 (O.pkT (.lit rfl) rfl (.k rfl)) <| DL.fin rfl rfl rfl (.n rfl (.n rfl (.n rfl (.n rfl (.n rfl (.n rfl (.n rfl .nil)))))))
                  · refine DL.v 6 (O.fO rfl (.obj rfl) fd83_2 rfl) rfl rfl rfl rfl (.yb rfl rfl hb29) <| DL.v 7 (O.ldO (y := iR eI x4.Chk) rfl (.ptr rfl) ct33 rfl rfl) rfl rfl rfl rfl (.yb rfl rfl hb29) <| DL.v 8 (O.mv (.lit rfl)) rfl rfl rfl rfl (.yb rfl rfl hb29) ?_
                    obtain ⟨x30, hx30, hj⟩ := bnd hj
                    refine DL.v 9 (O.ixI (.imm rfl) (.lit rfl) sl33 hx30) rfl rfl rfl rfl (.yb rfl rfl hb29) <| DL.v 10 (O.ldI (x := I64 x30) (.iptr rfl) ct3 rfl) rfl rfl rfl rfl (.yb rfl rfl hb29) <| DL.v 11 (O.mv (.lit rfl)) rfl rfl rfl rfl (.yb rfl rfl hb29) <| DL.v 12 (O.add (.lit rfl) (.k rfl)) rfl rfl rfl rfl (.yb rfl rfl hb29) <| DL.v 13 (O.neq (.lit rfl) (.lit rfl)) rfl rfl rfl rfl (.yb rfl rfl hb29) <| Dv 14 (O.pkF (.lit rfl) hb29 (.lit rfl)) <| Dv 15 (O.mv (.lit rfl)) ?_
                    rcases cnd hj with ⟨hb31, hj⟩ | ⟨hb31, hj⟩
                    · obtain rfl := sm hj
                      exact DL.ps 16 rfl rfl hb31 rfl rfl rfl rfl <| DL.ps 17 rfl rfl hb31 rfl rfl rfl rfl <| DL.ps 18 rfl rfl hb31 rfl rfl rfl rfl <| DL.ps 19 rfl rfl hb31 rfl rfl rfl rfl <| DL.ps 20 rfl rfl hb31 rfl rfl rfl rfl <| DL.ps 21 rfl rfl hb31 rfl rfl rfl rfl <| DL.ps 22 rfl rfl hb31 rfl rfl rfl rfl <| DL.ps 23 rfl rfl hb31 rfl rfl rfl rfl <| DL.ps 24 rfl rfl hb31 rfl rfl rfl rfl <| DL.ps 25 rfl rfl hb31 rfl rfl rfl rfl <| DL.ps 26 rfl rfl hb31 rfl rfl rfl rfl <| DL.ps 27 rfl rfl hb31 rfl rfl rfl rfl <| DL.ps 28 rfl rfl hb31 rfl rfl rfl rfl <| DL.ps 29 rfl rfl hb31 rfl rfl rfl rfl <| Dv 30 (O.pkT (.lit rfl) hb31 (.k rfl)) <| DL.fin rfl rfl rfl (.n rfl (.n rfl (.n rfl (.n rfl (.n rfl (.n rfl (.n rfl .nil)))))))
                    · refine DL.v 16 (O.fO rfl (.obj rfl) fd83_1 rfl) rfl rfl rfl rfl (.yb rfl rfl hb31) <| DL.v 17 (O.ldO (y := iR eI x4.Val) rfl (.ptr rfl) ct33 rfl rfl) rfl rfl rfl rfl (.yb rfl rfl hb31) <| DL.v 18 (O.mv (.lit rfl)) rfl rfl rfl rfl (.yb rfl rfl hb31) ?_
                      obtain ⟨x32, hx32, hj⟩ := bnd hj
                      refine DL.v 19 (O.ixI (.imm rfl) (.lit rfl) sl33 hx32) rfl rfl rfl rfl (.yb rfl rfl hb31) <| DL.v 20 (O.ldI (x := I64 x32) (.iptr rfl) ct3 rfl) rfl rfl rfl rfl (.yb rfl rfl hb31) <| DL.v 21 (O.mv (.imm rfl)) rfl rfl rfl rfl (.yb rfl rfl hb31) <| DL.v 22 (O.mv (.lit rfl)) rfl rfl rfl rfl (.yb rfl rfl hb31) ?_
                      obtain ⟨x33, hx33, hj⟩ := bnd hj
                      refine DL.v 23 (O.ixI (.imm rfl) (.lit rfl) sl78 hx33) rfl rfl rfl rfl (.yb rfl rfl hb31) <| DL.v 24 (O.ldI (x := iR ePair x33) (.iptr rfl) ct53 rfl) rfl rfl rfl rfl (.yb rfl rfl hb31) <| DL.v 25 (O.mv (.lit rfl)) rfl rfl rfl rfl (.yb rfl rfl hb31) ?_
                      obtain ⟨x34, hx34, hj⟩ := bnd hj
                      obtain rfl := sm hj
                      exact DL.v 26 (O.ixI (.imm rfl) (.lit rfl) sl53 hx34) rfl rfl rfl rfl (.yb rfl rfl hb31) <| DL.v 27 (O.fI (.iptr rfl) fd61_1) rfl rfl rfl rfl (.yb rfl rfl hb31) <| DL.v 28 (O.ldI (x := I64 x34.Val) (.iptr rfl) ct3 rfl) rfl rfl rfl rfl (.yb rfl rfl hb31) <| DL.v 29 (O.neq (.lit rfl) (.lit rfl)) rfl rfl rfl rfl (.yb rfl rfl hb31) <| Dv 30 (O.pkF (.lit rfl) hb31 (.lit rfl)) <| DL.fin rfl rfl rfl (.n rfl (.n rfl (.n rfl (.n rfl (.n rfl (.n rfl (.n rfl .nil)))))))
                refine Px.sq ?_
                refine W.cnd rfl (fun hb36 => ?_) (fun hb36 => ?_)
                · replace h := cndT hb36 h
                  refine W.sq' ?_
                  refine W.rx [(4, _)] (Rv (O.as (.k rfl)) <| RunL.fin (.n rfl .nil)) ?_
                  refine Px.sq ?_
                  refine W.rt ?_
                  refine Px.sqR ?_
                  refine Px.bkR ?_
                  refine Px.sqR ?_
                  obtain rfl := sm h
                  exact Px.r2 (.n rfl .nil)
                · replace h := cndF hb36 h
                  refine W.sk ?_
                  refine Px.sq ?_
                  refine W.rx [(5, _), (6, _), (7, _), (8, _), (9, _), (10, _)] (Rv (O.mv (.lit rfl)) <| Rv (O.add (.lit rfl) (.k rfl)) <| RunL.re (G1 := [(5, iR (eM ePair) x3), (6, .obj [iR eI x4.Base, iR eI x4.Val, iR eI x4.Chk]), (8, I64 0), (9, I64 s8.2), (10, I64 s20.2), (118, I64 (w64 (s20.1 + 1)))]) (.n rfl (.n rfl (.n rfl (.n rfl (.n rfl (.n rfl .nil)))))) <| Rv (O.as (.lit rfl)) <| RunL.fin (.n rfl (.n rfl (.n rfl (.n rfl (.n rfl (.n rfl .nil))))))) ?_
                  refine Px.bk ?_
                  refine Px.sq ?_
                  refine W.rx [(5, _), (6, _), (7, _), (8, _), (9, _), (10, _)] (Rv (O.mv (.lit rfl)) <| Rv (O.add (.lit rfl) (.k rfl)) <| RunL.re (G1 := [(5, iR (eM ePair) x3), (6, .obj [iR eI x4.Base, iR eI x4.Val, iR eI x4.Chk]), (7, I64 (w64 (s20.1 + 1))), (8, I64 0), (9, I64 s8.2), (71, I64 (w64 (s20.2 + 1)))]) (.n rfl (.n rfl (.n rfl (.n rfl (.n rfl (.n rfl .nil)))))) <| Rv (O.as (.lit rfl)) <| RunL.fin (.n rfl (.n rfl (.n rfl (.n rfl (.n rfl (.n rfl .nil))))))) ?_
                  obtain rfl := sm h
                  exact Px.go (.n rfl (.n rfl (.n rfl (.n rfl (.n rfl (.n rfl .nil))))))
              · replace h := cndF hb25 h
                refine W.xi ?_
                refine Px.sqE ?_
                obtain rfl := sm h
                exact Px.x2 (.n rfl (.n rfl (.n rfl (.n rfl (.n rfl .nil)))))
            · subst hx
              refine Px.bkH ?_
              refine Px.bk ?_
              refine Px.sq ?_
              refine W.rx [(5, _), (6, _), (7, _), (8, _), (9, _)] (Rv (O.mv (.lit rfl)) <| Rv (O.add (.lit rfl) (.k rfl)) <| RunL.re (G1 := [(5, iR (eM ePair) x3), (6, .obj [iR eI x4.Base, iR eI x4.Val, iR eI x4.Chk]), (7, I64 x22), (8, I64 0), (40, I64 (w64 (s8.2 + 1)))]) (.n rfl (.n rfl (.n rfl (.n rfl (.n rfl .nil))))) <| Rv (O.as (.lit rfl)) <| RunL.fin (.n rfl (.n rfl (.n rfl (.n rfl (.n rfl .nil)))))) ?_
              obtain rfl := sm h
              exact Px.go (.n rfl (.n rfl (.n rfl (.n rfl (.n rfl .nil)))))
            · subst hx
              refine Px.bkR ?_
              refine Px.bkR ?_
              refine Px.sqR ?_
              obtain rfl := sm h
              exact Px.r2 (.n rfl .nil)
        · replace h := cndF hb12 h
          refine W.xi ?_
          refine Px.sqE ?_
          obtain rfl := sm h
          exact Px.x2 (.n rfl (.n rfl (.n rfl .nil)))
      · subst hx
        refine Px.bkH ?_
        refine Px.sq ?_
        refine W.sq' ?_
        refine W.sq' ?_
        refine W.rx [(6, _), (7, _), (8, _), (12, _)] (Rv (O.as (.k rfl)) <| RunL.fin (.n rfl (.n rfl (.n rfl (.n rfl .nil))))) ?_
        refine Px.sq ?_
        refine W.bk ?_
        obtain ⟨x38, hl, h⟩ := bnd h
        refine W.tr (G1 := [(6, .obj [iR eI x4.Base, iR eI x4.Val, iR eI x4.Chk]), (7, I64 x10), (8, I64 0), (12, I64 0)]) (.n rfl (.n rfl (.n rfl (.n rfl .nil)))) ?_
        refine W.lp2 (s := (0, 0)) (fun (s37 : Int × Int) => [(6, .obj [iR eI x4.Base, iR eI x4.Val, iR eI x4.Chk]), (7, I64 x10), (8, I64 s37.1), (12, I64 s37.2)]) 4 (fun (x39 : Int) => [(7, I64 x10), (8, I64 x39)]) (fun (x40 : Bool) => [(4, BB x40)]) hl (fun s37 o h => ?_) (fun x39 hx => ?_) (fun x40 hx => ?_)
        · clear hl
          refine W.sq' ?_
          refine W.sq' ?_
          refine W.rx [(6, _), (7, _), (8, _), (12, _), (123, _)] (Rv (O.mv (.lit rfl)) <| Rv (O.fO rfl (.obj rfl) fd83_2 rfl) <| Rv (O.ldO (y := iR eI x4.Chk) rfl (.ptr rfl) ct33 rfl rfl) <| Rv (O.lenI (.imm rfl) sl33) <| Rv (O.lss (.lit rfl) (.lit rfl)) <| RunL.fin (.n rfl (.n rfl (.n rfl (.n rfl (.n rfl .nil)))))) ?_
          refine Px.sq ?_
          refine W.cnd rfl (fun hb41 => ?_) (fun hb41 => ?_)
          · replace h := cndT hb41 h
            refine W.sk ?_
            refine Px.sq ?_
            refine W.sq' ?_
            refine W.bk ?_
            refine W.sq' ?_
            obtain ⟨x42, hx42, h⟩ := bnd h
            refine W.rx [(6, _), (7, _), (8, _), (12, _), (131, _)] (Rv (O.fO rfl (.obj rfl) fd83_2 rfl) <| Rv (O.ldO (y := iR eI x4.Chk) rfl (.ptr rfl) ct33 rfl rfl) <| Rv (O.mv (.lit rfl)) <| Rv (O.ixI (.imm rfl) (.lit rfl) sl33 hx42) <| Rv (O.ldI (x := I64 x42) (.iptr rfl) ct3 rfl) <| Rv (O.neq (.lit rfl) (.k rfl)) <| RunL.fin (.n rfl (.n rfl (.n rfl (.n rfl (.n rfl .nil)))))) ?_
            refine Px.sq ?_
            refine W.cnd rfl (fun hb43 => ?_) (fun hb43 => ?_)
            · replace h := cndT hb43 h
              refine W.rx [(6, _), (7, _), (8, _), (12, _)] (Rv (O.mv (.lit rfl)) <| Rv (O.add (.lit rfl) (.k rfl)) <| RunL.re (G1 := [(6, .obj [iR eI x4.Base, iR eI x4.Val, iR eI x4.Chk]), (7, I64 x10), (12, I64 s37.2), (133, I64 (w64 (s37.1 + 1)))]) (.n rfl (.n rfl (.n rfl (.n rfl .nil)))) <| Rv (O.as (.lit rfl)) <| RunL.fin (.n rfl (.n rfl (.n rfl (.n rfl .nil))))) ?_
              refine Px.bk ?_
              refine Px.sq ?_
              refine W.rx [(6, _), (7, _), (8, _), (12, _)] (Rv (O.mv (.lit rfl)) <| Rv (O.add (.lit rfl) (.k rfl)) <| RunL.re (G1 := [(6, .obj [iR eI x4.Base, iR eI x4.Val, iR eI x4.Chk]), (7, I64 x10), (8, I64 (w64 (s37.1 + 1))), (125, I64 (w64 (s37.2 + 1)))]) (.n rfl (.n rfl (.n rfl (.n rfl .nil)))) <| Rv (O.as (.lit rfl)) <| RunL.fin (.n rfl (.n rfl (.n rfl (.n rfl .nil))))) ?_
              obtain rfl := sm h
              exact Px.go (.n rfl (.n rfl (.n rfl (.n rfl .nil))))
            · replace h := cndF hb43 h
              refine W.sq' ?_
              obtain ⟨c46, hj, h⟩ := bnd h
              refine W.rx [(6, .obj [iR eI x4.Base, iR eI x4.Val, iR eI x4.Chk]), (7, I64 x10), (8, I64 s37.1), (12, I64 s37.2), (147, BB c46)] ?_ ?_
              · refine Rv (O.fO rfl (.obj rfl) fd83_1 rfl) <| Rv (O.ldO (y := iR eI x4.Val) rfl (.ptr rfl) ct33 rfl rfl) <| Rv (O.mv (.lit rfl)) ?_
                obtain ⟨x44, hx44, hj⟩ := bnd hj
                refine Rv (O.ixI (.imm rfl) (.lit rfl) sl33 hx44) <| Rv (O.ldI (x := I64 x44) (.iptr rfl) ct3 rfl) <| Rv (O.neq (.lit rfl) (.k rfl)) <| Rv (O.mv (.lit rfl)) ?_
                rcases cnd hj with ⟨hb45, hj⟩ | ⟨hb45, hj⟩
                · obtain rfl := sm hj
                  exact RunL.ps rfl rfl hb45 rfl rfl <| RunL.ps rfl rfl hb45 rfl rfl <| RunL.ps rfl rfl hb45 rfl rfl <| RunL.ps rfl rfl hb45 rfl rfl <| RunL.ps rfl rfl hb45 rfl rfl <| RunL.ps rfl rfl hb45 rfl rfl <| Rv (O.pkT (.lit rfl) hb45 (.k rfl)) <| RunL.fin (.n rfl (.n rfl (.n rfl (.n rfl (.n rfl .nil)))))
                · obtain rfl := sm hj
                  exact RunL.v (O.mv (.lit rfl)) rfl rfl (.yb rfl rfl hb45) <| RunL.v (O.add (.lit rfl) (.k rfl)) rfl rfl (.yb rfl rfl hb45) <| RunL.v (O.fO rfl (.obj rfl) fd83_2 rfl) rfl rfl (.yb rfl rfl hb45) <| RunL.v (O.ldO (y := iR eI x4.Chk) rfl (.ptr rfl) ct33 rfl rfl) rfl rfl (.yb rfl rfl hb45) <| RunL.v (O.lenI (.imm rfl) sl33) rfl rfl (.yb rfl rfl hb45) <| RunL.v (O.eql (.lit rfl) (.lit rfl)) rfl rfl (.yb rfl rfl hb45) <| Rv (O.pkF (.lit rfl) hb45 (.lit rfl)) <| RunL.fin (.n rfl (.n rfl (.n rfl (.n rfl (.n rfl .nil)))))
              refine Px.sq ?_
              refine W.cnd rfl (fun hb47 => ?_) (fun hb47 => ?_)
              · replace h := cndT hb47 h
                refine W.sq' ?_
                refine W.rx [(4, _)] (Rv (O.as (.k rfl)) <| RunL.fin (.n rfl .nil)) ?_
                refine Px.sq ?_
                refine W.rt ?_
                refine Px.bkR ?_
                refine Px.sqR ?_
                obtain rfl := sm h
                exact Px.r2 (.n rfl .nil)
              · replace h := cndF hb47 h
                refine W.sk ?_
                refine Px.bk ?_
                refine Px.sq ?_
                refine W.rx [(6, _), (7, _), (8, _), (12, _)] (Rv (O.mv (.lit rfl)) <| Rv (O.add (.lit rfl) (.k rfl)) <| RunL.re (G1 := [(6, .obj [iR eI x4.Base, iR eI x4.Val, iR eI x4.Chk]), (7, I64 x10), (8, I64 s37.1), (125, I64 (w64 (s37.2 + 1)))]) (.n rfl (.n rfl (.n rfl (.n rfl .nil)))) <| Rv (O.as (.lit rfl)) <| RunL.fin (.n rfl (.n rfl (.n rfl (.n rfl .nil))))) ?_
                obtain rfl := sm h
                exact Px.go (.n rfl (.n rfl (.n rfl (.n rfl .nil))))
          · replace h := cndF hb41 h
            refine W.xi ?_
            refine Px.sqE ?_
            obtain rfl := sm h
            exact Px.x2 (.n rfl (.n rfl .nil))
        · subst hx
          refine Px.bkH ?_
          refine Px.sq ?_
          refine W.sq' ?_
          refine W.rx [(4, _)] (Rv (O.mv (.lit rfl)) <| Rv (O.mv (.lit rfl)) <| Rv (O.eql (.lit rfl) (.lit rfl)) <| Rv (O.as (.lit rfl)) <| RunL.fin (.n rfl .nil)) ?_
          refine Px.sq ?_
          refine W.rt ?_
          obtain rfl := sm h
          exact Px.fin (Fin.ro (.f rfl rfl .nil) rfl (of_decide_eq_true (by kernel_rfl)) (.no (.no .nil)) rfl (.inr rfl))
        · subst hx
          refine Px.bkR ?_
          refine Px.sqR ?_
          obtain rfl := sm h
          exact Px.fin (Fin.ro (.f rfl rfl .nil) rfl (of_decide_eq_true (by kernel_rfl)) (.no (.no .nil)) rfl (.inr rfl))
      · subst hx
        refine Px.bkR ?_
        refine Px.sqR ?_
        obtain rfl := sm h
        exact Px.fin (Fin.ro (.f rfl rfl .nil) rfl (of_decide_eq_true (by kernel_rfl)) (.no (.no .nil)) rfl (.inr rfl))
def pf11 (a0 : (List (List Int))) (a1 : Int) : Option (Bool) :=
 (pf37 ).bind fun x1 =>
 (bif !x1 then
 some false
 else
 (pf38 a0 a1).bind fun x3 =>
 (pf41 x3).bind fun x4 =>
 (bif !decide ((x4.Base.length : Int) = (x3.length : Int)) then
 some false
 else
 (loopM (R := (Unit) ⊕ (Bool)) (fun (s6 : Int) =>
 (bif decide (s6 < (x3.length : Int)) then
 (loopM (R := (Unit) ⊕ (Bool)) (fun (s11 : Int) =>
 (idx x4.Base s6).bind fun x15 =>
 (bif decide (s11 < x15) then
 (loopM (R := Bool) (fun (s17 : Bool × Int) =>
 (idx x3 s6).bind fun x20 =>
 (bif decide (s17.2 < (x20.length : Int)) then
 ((idx x3 s6).bind fun x23 =>
 (idx x23 s17.2).bind fun x24 =>
 ((bif decide ((x4.Chk.length : Int) ≤ w64 (s11 + x24.At)) then some true else ((idx x4.Chk (w64 (s11 + x24.At))).bind fun x26 => some (decide (x26 = 0))))).bind fun c27 =>
 (bif c27 then
 some s17.1
 else
 (idx x4.Chk (w64 (s11 + x24.At))).bind fun x29 =>
 ((bif s17.1 then some true else (bif decide (0 ≤ w64 (x29 - 1)) then (bif decide (w64 (x29 - 1) < (x3.length : Int)) then ((idx x3 (w64 (x29 - 1))).bind fun x33 => ((idx x3 s6).bind fun x34 => (bif decide ((x34.length : Int) < (x33.length : Int)) then some true else ((idx x3 (w64 (x29 - 1))).bind fun x36 => ((idx x3 s6).bind fun x37 => (bif decide ((x36.length : Int) = (x37.length : Int)) then some (decide (w64 (x29 - 1) < s6)) else some false)))))) else some false) else some false))).bind fun c39 =>
 some c39)).bind fun j22 =>
 some (.inl (j22, w64 (s17.2 + 1)))
 else
 some (.inr s17.1))) (false, 0)).bind fun x18 =>
 (bif !x18 then
 some (.inr (.inr false))
 else
 some (.inl (w64 (s11 + 1))))
 else
 some (.inr (.inl ())))) 0).bind fun x12 =>
 (match x12 with
 | .inl x13 =>
 some (.inl (w64 (s6 + 1)))
 | .inr x14 =>
 some (.inr (.inr x14)))
 else
 some (.inr (.inl ())))) 0).bind fun x7 =>
 (match x7 with
 | .inl x8 =>
 some true
 | .inr x9 =>
 some x9)))
theorem con11 (a0 : (List (List Int))) (a1 : Int) (r : Bool) (h : pf11 a0 a1 = some r) : Con Try.prog 11 [iR (eM eI) a0, I64 a1] [none, none] (BB r) := by
  unfold pf11 at h
  refine Con.go (N := ⟨123, []⟩) Try.func11 rfl rfl rfl rfl (W.fin ?_)
  refine W.st [(0, iR (eM eI) a0), (1, I64 a1)] ?_
  refine W.sq' ?_
  refine W.rx [(0, _), (1, _)] (Rv (O.as (.k rfl)) <| RunL.fin (.n rfl (.n rfl .nil))) ?_
  refine Px.sq ?_
  refine W.sq' ?_
  refine W.sq' ?_
  obtain ⟨x1, hx1, h⟩ := bnd h
  refine W.rx [(0, _), (1, _), (14, _)] (Rc (PC.go .nil (con37  _ hx1) call37 rfl) <| Rv (O.not (.lit rfl)) <| RunL.fin (.n rfl (.n rfl (.n rfl .nil)))) ?_
  refine Px.sq ?_
  refine W.cnd rfl (fun hb2 => ?_) (fun hb2 => ?_)
  · replace h := cndT hb2 h
    refine W.sq' ?_
    refine W.rx [(4, _)] (Rv (O.as (.k rfl)) <| RunL.fin (.n rfl .nil)) ?_
    refine Px.sq ?_
    refine W.rt ?_
    refine Px.sqR ?_
    obtain rfl := sm h
    exact Px.fin (Fin.ro (.f rfl rfl .nil) rfl (of_decide_eq_true (by kernel_rfl)) (.no (.no .nil)) rfl (.inr rfl))
  · replace h := cndF hb2 h
    refine W.sk ?_
    refine Px.sq ?_
    refine W.sq' ?_
    obtain ⟨x3, hx3, h⟩ := bnd h
    refine W.rx [(5, _)] (Rv (O.mv (.imm rfl)) <| Rv (O.mv (.lit rfl)) <| Rc (PC.go (.cc (.imm rfl) (.cc (.lit rfl) .nil)) (con38 a0 a1 _ hx3) call38 rfl) <| Rv (O.as (.imm rfl)) <| RunL.fin (.n rfl .nil)) ?_
    refine Px.sq ?_
    refine W.sq' ?_
    obtain ⟨x4, hx4, h⟩ := bnd h
    refine W.rx [(5, _), (6, _)] (Rv (O.mv (.imm rfl)) <| Rc (PC.go (.cc (.imm rfl) .nil) (con41 x3 _ hx4) call41 rfl) <| Rv (O.al (cs := [.nils, .nils, .nils]) ze83 rfl rfl) <| RunL.sO (G2 := [(5, iR (eM ePair) x3), (6, .obj [iR eI x4.Base, iR eI x4.Val, iR eI x4.Chk])]) (cs2 := [iR eI x4.Base, iR eI x4.Val, iR eI x4.Chk]) rfl (.obj rfl) (.aggF rfl rfl) rfl sz83 rfl rfl rfl rfl (.n rfl rfl (.b rfl .nil)) <| RunL.fin (.n rfl (.n rfl .nil))) ?_
    refine Px.sq ?_
    refine W.sq' ?_
    refine W.sq' ?_
    refine W.rx [(5, _), (6, _), (25, _)] (Rv (O.fO rfl (.obj rfl) fd83_0 rfl) <| Rv (O.ldO (y := iR eI x4.Base) rfl (.ptr rfl) ct33 rfl rfl) <| Rv (O.lenI (.imm rfl) sl33) <| Rv (O.mv (.imm rfl)) <| Rv (O.lenI (.imm rfl) sl78) <| Rv (O.neq (.lit rfl) (.lit rfl)) <| RunL.fin (.n rfl (.n rfl (.n rfl .nil)))) ?_
    refine Px.sq ?_
    refine W.cnd rfl (fun hb5 => ?_) (fun hb5 => ?_)
    · replace h := cndT hb5 h
      refine W.sq' ?_
      refine W.rx [(4, _)] (Rv (O.as (.k rfl)) <| RunL.fin (.n rfl .nil)) ?_
      refine Px.sq ?_
      refine W.rt ?_
      refine Px.sqR ?_
      obtain rfl := sm h
      exact Px.fin (Fin.ro (.f rfl rfl .nil) rfl (of_decide_eq_true (by kernel_rfl)) (.no (.no .nil)) rfl (.inr rfl))
    · replace h := cndF hb5 h
      refine W.sk ?_
      refine Px.sq ?_
      refine W.sq' ?_
      refine W.sq' ?_
      refine W.rx [(5, _), (6, _), (7, _)] (Rv (O.as (.k rfl)) <| RunL.fin (.n rfl (.n rfl (.n rfl .nil)))) ?_
      refine Px.sq ?_
      refine W.bk ?_
      obtain ⟨x7, hl, h⟩ := bnd h
      refine W.tr (G1 := [(5, iR (eM ePair) x3), (6, .obj [iR eI x4.Base, iR eI x4.Val, iR eI x4.Chk]), (7, I64 0)]) (.n rfl (.n rfl (.n rfl .nil))) ?_
      refine W.lp2 (s := 0) (fun (s6 : Int) => [(5, iR (eM ePair) x3), (6, .obj [iR eI x4.Base, iR eI x4.Val, iR eI x4.Chk]), (7, I64 s6)]) 0 (fun (x8 : Unit) => []) (fun (x9 : Bool) => [(4, BB x9)]) hl (fun s6 o h => ?_) (fun x8 hx => ?_) (fun x9 hx => ?_)
      · clear hl
        refine W.sq' ?_
        refine W.sq' ?_
        refine W.rx [(5, _), (6, _), (7, _), (29, _)] (Rv (O.mv (.lit rfl)) <| Rv (O.mv (.imm rfl)) <| Rv (O.lenI (.imm rfl) sl78) <| Rv (O.lss (.lit rfl) (.lit rfl)) <| RunL.fin (.n rfl (.n rfl (.n rfl (.n rfl .nil))))) ?_
        refine Px.sq ?_
        refine W.cnd rfl (fun hb10 => ?_) (fun hb10 => ?_)
        · replace h := cndT hb10 h
          refine W.sk ?_
          refine Px.sq ?_
          refine W.sq' ?_
          refine W.bk ?_
          refine W.sq' ?_
          refine W.rx [(5, _), (6, _), (7, _), (8, _)] (Rv (O.as (.k rfl)) <| RunL.fin (.n rfl (.n rfl (.n rfl (.n rfl .nil))))) ?_
          refine Px.sq ?_
          refine W.bk ?_
          obtain ⟨x12, hl, h⟩ := bnd h
          refine W.tr (G1 := [(5, iR (eM ePair) x3), (6, .obj [iR eI x4.Base, iR eI x4.Val, iR eI x4.Chk]), (7, I64 s6), (8, I64 0)]) (.n rfl (.n rfl (.n rfl (.n rfl .nil)))) ?_
          refine W.lp2 (s := 0) (fun (s11 : Int) => [(5, iR (eM ePair) x3), (6, .obj [iR eI x4.Base, iR eI x4.Val, iR eI x4.Chk]), (7, I64 s6), (8, I64 s11)]) 2 (fun (x13 : Unit) => [(5, iR (eM ePair) x3), (6, .obj [iR eI x4.Base, iR eI x4.Val, iR eI x4.Chk]), (7, I64 s6)]) (fun (x14 : Bool) => [(4, BB x14)]) hl (fun s11 o h => ?_) (fun x13 hx => ?_) (fun x14 hx => ?_)
          · clear hl
            refine W.sq' ?_
            refine W.sq' ?_
            obtain ⟨x15, hx15, h⟩ := bnd h
            refine W.rx [(5, _), (6, _), (7, _), (8, _), (38, _)] (Rv (O.mv (.lit rfl)) <| Rv (O.fO rfl (.obj rfl) fd83_0 rfl) <| Rv (O.ldO (y := iR eI x4.Base) rfl (.ptr rfl) ct33 rfl rfl) <| Rv (O.mv (.lit rfl)) <| Rv (O.ixI (.imm rfl) (.lit rfl) sl33 hx15) <| Rv (O.ldI (x := I64 x15) (.iptr rfl) ct3 rfl) <| Rv (O.lss (.lit rfl) (.lit rfl)) <| RunL.fin (.n rfl (.n rfl (.n rfl (.n rfl (.n rfl .nil)))))) ?_
            refine Px.sq ?_
            refine W.cnd rfl (fun hb16 => ?_) (fun hb16 => ?_)
            · replace h := cndT hb16 h
              refine W.sk ?_
              refine Px.sq ?_
              refine W.sq' ?_
              refine W.bk ?_
              refine W.sq' ?_
              refine W.rx [(5, _), (6, _), (7, _), (8, _), (9, _)] (Rv (O.as (.k rfl)) <| RunL.fin (.n rfl (.n rfl (.n rfl (.n rfl (.n rfl .nil)))))) ?_
              refine Px.sq ?_
              refine W.sq' ?_
              refine W.sq' ?_
              refine W.rx [(5, _), (6, _), (7, _), (8, _), (9, _), (10, _)] (Rv (O.as (.k rfl)) <| RunL.fin (.n rfl (.n rfl (.n rfl (.n rfl (.n rfl (.n rfl .nil))))))) ?_
              refine Px.sq ?_
              refine W.bk ?_
              obtain ⟨x18, hl, h⟩ := bnd h
              refine W.tr (G1 := [(5, iR (eM ePair) x3), (6, .obj [iR eI x4.Base, iR eI x4.Val, iR eI x4.Chk]), (7, I64 s6), (8, I64 s11), (9, BB false), (10, I64 0)]) (.n rfl (.n rfl (.n rfl (.n rfl (.n rfl (.n rfl .nil)))))) ?_
              refine W.lp1 (s := (false, 0)) (fun (s17 : Bool × Int) => [(5, iR (eM ePair) x3), (6, .obj [iR eI x4.Base, iR eI x4.Val, iR eI x4.Chk]), (7, I64 s6), (8, I64 s11), (9, BB s17.1), (10, I64 s17.2)]) 4 (fun (x18 : Bool) => [(5, iR (eM ePair) x3), (6, .obj [iR eI x4.Base, iR eI x4.Val, iR eI x4.Chk]), (7, I64 s6), (8, I64 s11), (9, BB x18)]) hl (fun s17 o h => ?_) ?_
              · clear hl
                refine W.sq' ?_
                refine W.sq' ?_
                obtain ⟨x20, hx20, h⟩ := bnd h
                refine W.rx [(5, _), (6, _), (7, _), (8, _), (9, _), (10, _), (47, _)] (Rv (O.mv (.lit rfl)) <| Rv (O.mv (.imm rfl)) <| Rv (O.mv (.lit rfl)) <| Rv (O.ixI (.imm rfl) (.lit rfl) sl78 hx20) <| Rv (O.ldI (x := iR ePair x20) (.iptr rfl) ct53 rfl) <| Rv (O.lenI (.imm rfl) sl53) <| Rv (O.lss (.lit rfl) (.lit rfl)) <| RunL.fin (.n rfl (.n rfl (.n rfl (.n rfl (.n rfl (.n rfl (.n rfl .nil)))))))) ?_
                refine Px.sq ?_
                refine W.cnd rfl (fun hb21 => ?_) (fun hb21 => ?_)
                · replace h := cndT hb21 h
                  refine W.sk ?_
                  refine Px.sq ?_
                  refine W.sq' ?_
                  obtain ⟨j22, hj, h⟩ := bnd h
                  refine W.jn [(5, iR (eM ePair) x3), (6, .obj [iR eI x4.Base, iR eI x4.Val, iR eI x4.Chk]), (7, I64 s6), (8, I64 s11), (9, BB j22), (10, I64 s17.2)] ?_ ?_
                  · clear h; have h := hj; clear hj
                    refine W.bk ?_
                    refine W.sq' ?_
                    obtain ⟨x23, hx23, h⟩ := bnd h
                    obtain ⟨x24, hx24, h⟩ := bnd h
                    refine W.rx [(5, _), (6, _), (7, _), (8, _), (9, _), (10, _), (11, _)] (Rv (O.mv (.lit rfl)) <| Rv (O.mv (.imm rfl)) <| Rv (O.mv (.lit rfl)) <| Rv (O.ixI (.imm rfl) (.lit rfl) sl78 hx23) <| Rv (O.ldI (x := iR ePair x23) (.iptr rfl) ct53 rfl) <| Rv (O.mv (.lit rfl)) <| Rv (O.ixI (.imm rfl) (.lit rfl) sl53 hx24) <| Rv (O.fI (.iptr rfl) fd61_0) <| Rv (O.ldI (x := I64 x24.At) (.iptr rfl) ct3 rfl) <| Rv (O.add (.lit rfl) (.lit rfl)) <| Rv (O.as (.lit rfl)) <| RunL.fin (.n rfl (.n rfl (.n rfl (.n rfl (.n rfl (.n rfl (.n rfl .nil)))))))) ?_
                    refine Px.sq ?_
                    refine W.sq' ?_
                    refine W.sq' ?_
                    obtain ⟨c27, hj, h⟩ := bnd h
                    refine W.rx [(5, iR (eM ePair) x3), (6, .obj [iR eI x4.Base, iR eI x4.Val, iR eI x4.Chk]), (7, I64 s6), (8, I64 s11), (9, BB s17.1), (10, I64 s17.2), (11, I64 (w64 (s11 + x24.At))), (72, BB c27)] ?_ ?_
                    · refine Rv (O.mv (.lit rfl)) <| Rv (O.fO rfl (.obj rfl) fd83_2 rfl) <| Rv (O.ldO (y := iR eI x4.Chk) rfl (.ptr rfl) ct33 rfl rfl) <| Rv (O.lenI (.imm rfl) sl33) <| Rv (O.geq (.lit rfl) (.lit rfl)) <| Rv (O.mv (.lit rfl)) ?_
                      rcases cnd hj with ⟨hb25, hj⟩ | ⟨hb25, hj⟩
                      · obtain rfl := sm hj
                        exact RunL.ps rfl rfl hb25 rfl rfl <| RunL.ps rfl rfl hb25 rfl rfl <| RunL.ps rfl rfl hb25 rfl rfl <| RunL.ps rfl rfl hb25 rfl rfl <| RunL.ps rfl rfl hb25 rfl rfl <| RunL.ps rfl rfl hb25 rfl rfl <| Rv (O.pkT (.lit rfl) hb25 (.k rfl)) <| RunL.fin (.n rfl (.n rfl (.n rfl (.n rfl (.n rfl (.n rfl (.n rfl (.n rfl .nil))))))))
                      · refine RunL.v (O.fO rfl (.obj rfl) fd83_2 rfl) rfl rfl (.yb rfl rfl hb25) <| RunL.v (O.ldO (y := iR eI x4.Chk) rfl (.ptr rfl) ct33 rfl rfl) rfl rfl (.yb rfl rfl hb25) <| RunL.v (O.mv (.lit rfl)) rfl rfl (.yb rfl rfl hb25) ?_
                        obtain ⟨x26, hx26, hj⟩ := bnd hj
                        obtain rfl := sm hj
                        exact RunL.v (O.ixI (.imm rfl) (.lit rfl) sl33 hx26) rfl rfl (.yb rfl rfl hb25) <| RunL.v (O.ldI (x := I64 x26) (.iptr rfl) ct3 rfl) rfl rfl (.yb rfl rfl hb25) <| RunL.v (O.eql (.lit rfl) (.k rfl)) rfl rfl (.yb rfl rfl hb25) <| Rv (O.pkF (.lit rfl) hb25 (.lit rfl)) <| RunL.fin (.n rfl (.n rfl (.n rfl (.n rfl (.n rfl (.n rfl (.n rfl (.n rfl .nil))))))))
                    refine Px.sq ?_
                    refine W.cnd rfl (fun hb28 => ?_) (fun hb28 => ?_)
                    · replace h := cndT hb28 h
                      refine W.xi ?_
                      refine Px.sqE ?_
                      refine Px.bkH ?_
                      obtain rfl := sm h
                      exact Px.jn (.n rfl (.n rfl (.n rfl (.n rfl (.n rfl (.n rfl .nil))))))
                    · replace h := cndF hb28 h
                      refine W.sk ?_
                      refine Px.sq ?_
                      refine W.sq' ?_
                      obtain ⟨x29, hx29, h⟩ := bnd h
                      refine W.rx [(5, _), (6, _), (7, _), (8, _), (9, _), (10, _), (12, _)] (Rv (O.fO rfl (.obj rfl) fd83_2 rfl) <| Rv (O.ldO (y := iR eI x4.Chk) rfl (.ptr rfl) ct33 rfl rfl) <| Rv (O.mv (.lit rfl)) <| Rv (O.ixI (.imm rfl) (.lit rfl) sl33 hx29) <| Rv (O.ldI (x := I64 x29) (.iptr rfl) ct3 rfl) <| Rv (O.sub (.lit rfl) (.k rfl)) <| Rv (O.as (.lit rfl)) <| RunL.fin (.n rfl (.n rfl (.n rfl (.n rfl (.n rfl (.n rfl (.n rfl .nil)))))))) ?_
                      refine Px.sq ?_
                      refine W.tr (G1 := [(5, iR (eM ePair) x3), (6, .obj [iR eI x4.Base, iR eI x4.Val, iR eI x4.Chk]), (7, I64 s6), (8, I64 s11), (9, BB s17.1), (10, I64 s17.2), (12, I64 (w64 (x29 - 1)))]) (.n rfl (.n rfl (.n rfl (.n rfl (.n rfl (.n rfl (.n rfl .nil))))))) ?_
                      obtain ⟨c39, hj, h⟩ := bnd h
                      refine W.rd [[], [0], [0, 1], [0, 1, 2], [0, 1, 2, 3], rn 0 5 [], rn 0 5 [], rn 0 5 [6], rn 0 8 [], rn 0 9 [], rn 0 10 [], rn 0 11 [], rn 0 11 [], rn 0 13 [], rn 0 14 [], rn 0 15 [], rn 0 11 [], rn 0 11 [], rn 0 11 [16, 17], rn 0 11 [16, 17, 18], rn 0 11 [16, 17, 18, 19], rn 0 21 [], rn 0 22 [], rn 0 23 [], rn 0 23 [], rn 0 25 [], rn 0 26 [], rn 0 27 [], rn 0 23 [], rn 0 23 [], rn 0 23 [28, 29], rn 0 23 [28, 29, 30], rn 0 23 [28, 29, 30, 31], rn 0 33 [], rn 0 34 [], rn 0 35 [], rn 0 35 [], rn 0 37 [], rn 0 38 [], rn 0 39 [], rn 0 40 [], rn 0 41 [], rn 0 42 []] [(5, iR (eM ePair) x3), (6, .obj [iR eI x4.Base, iR eI x4.Val, iR eI x4.Chk]), (7, I64 s6), (8, I64 s11), (9, BB c39), (10, I64 s17.2)] mixo (by kernel_rfl) ?_ ?_
                      · refine Dv 0 (O.mv (.lit rfl)) <| Dv 1 (O.mv (.lit rfl)) ?_
                        rcases cnd hj with ⟨hb30, hj⟩ | ⟨hb30, hj⟩
                        · obtain rfl := sm hj
                          exact DL.ps 2 rfl rfl hb30 rfl rfl rfl rfl <| DL.ps 3 rfl rfl hb30 rfl rfl rfl rfl <| DL.ps 4 rfl rfl hb30 rfl rfl rfl rfl <| DL.pu 5 rfl rfl rfl rfl rfl rfl <| DL.pu 6 rfl rfl rfl rfl rfl rfl <| DL.pu 7 rfl rfl rfl rfl rfl rfl <| DL.pu 8 rfl rfl rfl rfl rfl rfl <| DL.ps 9 rfl rfl hb30 rfl rfl rfl rfl <| DL.ps 10 rfl rfl hb30 rfl rfl rfl rfl <| DL.pu 11 rfl rfl rfl rfl rfl rfl <| DL.pu 12 rfl rfl rfl rfl rfl rfl <| DL.pu 13 rfl rfl rfl rfl rfl rfl <| DL.pu 14 rfl rfl rfl rfl rfl rfl <| DL.pu 15 rfl rfl rfl rfl rfl rfl <| DL.pu 16 rfl rfl rfl rfl rfl rfl <| DL.pu 17 rfl rfl rfl rfl rfl rfl <| DL.pu 18 rfl rfl rfl rfl rfl rfl <| DL.pu 19 rfl rfl rfl rfl rfl rfl <| DL.pu 20 rfl rfl rfl rfl rfl rfl <| DL.pu 21 rfl rfl rfl rfl rfl rfl <| DL.pu 22 rfl rfl rfl rfl rfl rfl <| DL.pu 23 rfl rfl rfl rfl rfl rfl <| DL.pu 24 rfl rfl rfl rfl rfl rfl <| DL.pu 25 rfl rfl rfl rfl rfl rfl <| DL.pu 26 rfl rfl rfl rfl rfl rfl <| DL.pu 27 rfl rfl rfl rfl rfl rfl <| DL.pu 28 rfl rfl rfl rfl rfl rfl <| DL.pu 29 rfl rfl rfl rfl rfl rfl <| DL.pu 30 rfl rfl rfl rfl rfl rfl <| DL.pu 31 rfl rfl rfl rfl rfl rfl <| DL.pu 32 rfl rfl rfl rfl rfl rfl <| DL.pu 33 rfl rfl rfl rfl rfl rfl <| DL.pu 34 rfl rfl rfl rfl rfl rfl <| DL.pu 35 rfl rfl rfl rfl rfl rfl <| DL.pu 36 rfl rfl rfl rfl rfl rfl <| DL.pu 37 rfl rfl rfl rfl rfl rfl <| DL.pu 38 rfl rfl rfl rfl rfl rfl <| DL.pu 39 rfl rfl rfl rfl rfl rfl <| DL.ps 40 rfl rfl hb30 rfl rfl rfl rfl <| Dv 41 (O.pkT (.lit rfl) hb30 (.k rfl)) <| DL.bv 42 (G2 := [(5, iR (eM ePair) x3), (6, .obj [iR eI x4.Base, iR eI x4.Val, iR eI x4.Chk]), (7, I64 s6), (8, I64 s11), (10, I64 s17.2)]) (EO.aG (y' := BB true) rfl rfl (.lit rfl) (.f .nil) .refl (.n rfl (.n rfl (.n rfl (.n rfl (.n rfl .nil))))) rfl rfl) rfl rfl rfl rfl (by kernel_rfl) (by kernel_rfl) <| DL.fin rfl rfl rfl (.n rfl (.n rfl (.n rfl (.n rfl (.n rfl (.n rfl .nil))))))
                        · refine DL.v 2 (O.mv (.lit rfl)) rfl rfl rfl rfl (.yb rfl rfl hb30) <| DL.v 3 (O.geq (.lit rfl) (.k rfl)) rfl rfl rfl rfl (.yb rfl rfl hb30) <| DL.v 4 (O.mv (.lit rfl)) rfl rfl rfl rfl (.yb rfl rfl hb30) ?_
                          rcases cnd hj with ⟨hb31, hj⟩ | ⟨hb31, hj⟩
                          · refine DL.v 5 (O.mv (.lit rfl)) rfl rfl rfl rfl (.yb rfl rfl hb31) <| DL.v 6 (O.mv (.imm rfl)) rfl rfl rfl rfl (.yb rfl rfl hb31) <| DL.v 7 (O.lenI (.imm rfl) sl78) rfl rfl rfl rfl (.yb rfl rfl hb31) <| DL.v 8 (O.lss (.lit rfl) (.lit rfl)) rfl rfl rfl rfl (.yb rfl rfl hb31) <| DL.v 9 (O.pkT (.lit rfl) hb31 (.lit rfl)) rfl rfl rfl rfl (.yb rfl rfl hb30) <| DL.v 10 (O.mv (.lit rfl)) rfl rfl rfl rfl (.yb rfl rfl hb30) ?_
                            rcases cnd hj with ⟨hb32, hj⟩ | ⟨hb32, hj⟩
                            · refine DL.v 11 (O.mv (.imm rfl)) rfl rfl rfl rfl (.yb rfl rfl hb32) <| DL.v 12 (O.mv (.lit rfl)) rfl rfl rfl rfl (.yb rfl rfl hb32) ?_
                              obtain ⟨x33, hx33, hj⟩ := bnd hj
                              refine DL.v 13 (O.ixI (.imm rfl) (.lit rfl) sl78 hx33) rfl rfl rfl rfl (.yb rfl rfl hb32) <| DL.v 14 (O.ldI (x := iR ePair x33) (.iptr rfl) ct53 rfl) rfl rfl rfl rfl (.yb rfl rfl hb32) <| DL.v 15 (O.lenI (.imm rfl) sl53) rfl rfl rfl rfl (.yb rfl rfl hb32) <| DL.v 16 (O.mv (.imm rfl)) rfl rfl rfl rfl (.yb rfl rfl hb32) <| DL.v 17 (O.mv (.lit rfl)) rfl rfl rfl rfl (.yb rfl rfl hb32) ?_
                              obtain ⟨x34, hx34, hj⟩ := bnd hj
                              refine DL.v 18 (O.ixI (.imm rfl) (.lit rfl) sl78 hx34) rfl rfl rfl rfl (.yb rfl rfl hb32) <| DL.v 19 (O.ldI (x := iR ePair x34) (.iptr rfl) ct53 rfl) rfl rfl rfl rfl (.yb rfl rfl hb32) <| DL.v 20 (O.lenI (.imm rfl) sl53) rfl rfl rfl rfl (.yb rfl rfl hb32) <| DL.v 21 (O.gtr (.lit rfl) (.lit rfl)) rfl rfl rfl rfl (.yb rfl rfl hb32) <| DL.v 22 (O.mv (.lit rfl)) rfl rfl rfl rfl (.yb rfl rfl hb32) ?_
                              rcases cnd hj with ⟨hb35, hj⟩ | ⟨hb35, hj⟩
                              · obtain rfl := sm hj
                                exact DL.ps 23 rfl rfl hb35 rfl rfl rfl rfl <| DL.ps 24 rfl rfl hb35 rfl rfl rfl rfl <| DL.ps 25 rfl rfl hb35 rfl rfl rfl rfl <| DL.ps 26 rfl rfl hb35 rfl rfl rfl rfl <| DL.ps 27 rfl rfl hb35 rfl rfl rfl rfl <| DL.ps 28 rfl rfl hb35 rfl rfl rfl rfl <| DL.ps 29 rfl rfl hb35 rfl rfl rfl rfl <| DL.ps 30 rfl rfl hb35 rfl rfl rfl rfl <| DL.ps 31 rfl rfl hb35 rfl rfl rfl rfl <| DL.ps 32 rfl rfl hb35 rfl rfl rfl rfl <| DL.ps 33 rfl rfl hb35 rfl rfl rfl rfl <| DL.ps 34 rfl rfl hb35 rfl rfl rfl rfl <| DL.pu 35 rfl rfl rfl rfl rfl rfl <| DL.pu 36 rfl rfl rfl rfl rfl rfl <| DL.pu 37 rfl rfl rfl rfl rfl rfl <| DL.ps 38 rfl rfl hb35 rfl rfl rfl rfl <| DL.v 39 (O.pkT (.lit rfl) hb35 (.k rfl)) rfl rfl rfl rfl (.yb rfl rfl hb32) <| DL.v 40 (O.pkT (.lit rfl) hb32 (.lit rfl)) rfl rfl rfl rfl (.yb rfl rfl hb30) <| Dv 41 (O.pkF (.lit rfl) hb30 (.lit rfl)) <| DL.bv 42 (G2 := [(5, iR (eM ePair) x3), (6, .obj [iR eI x4.Base, iR eI x4.Val, iR eI x4.Chk]), (7, I64 s6), (8, I64 s11), (10, I64 s17.2)]) (EO.aG (y' := BB true) rfl rfl (.lit rfl) (.f .nil) .refl (.n rfl (.n rfl (.n rfl (.n rfl (.n rfl .nil))))) rfl rfl) rfl rfl rfl rfl (by kernel_rfl) (by kernel_rfl) <| DL.fin rfl rfl rfl (.n rfl (.n rfl (.n rfl (.n rfl (.n rfl (.n rfl .nil))))))
                              · refine DL.v 23 (O.mv (.imm rfl)) rfl rfl rfl rfl (.yb rfl rfl hb35) <| DL.v 24 (O.mv (.lit rfl)) rfl rfl rfl rfl (.yb rfl rfl hb35) ?_
                                obtain ⟨x36, hx36, hj⟩ := bnd hj
                                refine DL.v 25 (O.ixI (.imm rfl) (.lit rfl) sl78 hx36) rfl rfl rfl rfl (.yb rfl rfl hb35) <| DL.v 26 (O.ldI (x := iR ePair x36) (.iptr rfl) ct53 rfl) rfl rfl rfl rfl (.yb rfl rfl hb35) <| DL.v 27 (O.lenI (.imm rfl) sl53) rfl rfl rfl rfl (.yb rfl rfl hb35) <| DL.v 28 (O.mv (.imm rfl)) rfl rfl rfl rfl (.yb rfl rfl hb35) <| DL.v 29 (O.mv (.lit rfl)) rfl rfl rfl rfl (.yb rfl rfl hb35) ?_
                                obtain ⟨x37, hx37, hj⟩ := bnd hj
                                refine DL.v 30 (O.ixI (.imm rfl) (.lit rfl) sl78 hx37) rfl rfl rfl rfl (.yb rfl rfl hb35) <| DL.v 31 (O.ldI (x := iR ePair x37) (.iptr rfl) ct53 rfl) rfl rfl rfl rfl (.yb rfl rfl hb35) <| DL.v 32 (O.lenI (.imm rfl) sl53) rfl rfl rfl rfl (.yb rfl rfl hb35) <| DL.v 33 (O.eql (.lit rfl) (.lit rfl)) rfl rfl rfl rfl (.yb rfl rfl hb35) <| DL.v 34 (O.mv (.lit rfl)) rfl rfl rfl rfl (.yb rfl rfl hb35) ?_
                                rcases cnd hj with ⟨hb38, hj⟩ | ⟨hb38, hj⟩
                                · obtain rfl := sm hj
                                  exact DL.v 35 (O.mv (.lit rfl)) rfl rfl rfl rfl (.yb rfl rfl hb38) <| DL.v 36 (O.mv (.lit rfl)) rfl rfl rfl rfl (.yb rfl rfl hb38) <| DL.v 37 (O.lss (.lit rfl) (.lit rfl)) rfl rfl rfl rfl (.yb rfl rfl hb38) <| DL.v 38 (O.pkT (.lit rfl) hb38 (.lit rfl)) rfl rfl rfl rfl (.yb rfl rfl hb35) <| DL.v 39 (O.pkF (.lit rfl) hb35 (.lit rfl)) rfl rfl rfl rfl (.yb rfl rfl hb32) <| DL.v 40 (O.pkT (.lit rfl) hb32 (.lit rfl)) rfl rfl rfl rfl (.yb rfl rfl hb30) <| Dv 41 (O.pkF (.lit rfl) hb30 (.lit rfl)) <| DL.bv 42 (G2 := [(5, iR (eM ePair) x3), (6, .obj [iR eI x4.Base, iR eI x4.Val, iR eI x4.Chk]), (7, I64 s6), (8, I64 s11), (10, I64 s17.2)]) (EO.aG (y' := BB (decide (w64 (x29 - 1) < s6))) rfl rfl (.lit rfl) (.f .nil) .refl (.n rfl (.n rfl (.n rfl (.n rfl (.n rfl .nil))))) rfl rfl) rfl rfl rfl rfl (by kernel_rfl) (by kernel_rfl) <| DL.fin rfl rfl rfl (.n rfl (.n rfl (.n rfl (.n rfl (.n rfl (.n rfl .nil))))))
                                · obtain rfl := sm hj
                                  exact DL.ps 35 rfl rfl hb38 rfl rfl rfl rfl <| DL.ps 36 rfl rfl hb38 rfl rfl rfl rfl <| DL.ps 37 rfl rfl hb38 rfl rfl rfl rfl <| DL.v 38 (O.pkF (.lit rfl) hb38 (.k rfl)) rfl rfl rfl rfl (.yb rfl rfl hb35) <| DL.v 39 (O.pkF (.lit rfl) hb35 (.lit rfl)) rfl rfl rfl rfl (.yb rfl rfl hb32) <| DL.v 40 (O.pkT (.lit rfl) hb32 (.lit rfl)) rfl rfl rfl rfl (.yb rfl rfl hb30) <| Dv 41 (O.pkF (.lit rfl) hb30 (.lit rfl)) <| DL.bv 42 (G2 := [(5, iR (eM ePair) x3), (6, .obj [iR eI x4.Base, iR eI x4.Val, iR eI x4.Chk]), (7, I64 s6), (8, I64 s11), (10, I64 s17.2)]) (EO.aG (y' := BB false) rfl rfl (.lit rfl) (.f .nil) .refl (.n rfl (.n rfl (.n rfl (.n rfl (.n rfl .nil))))) rfl rfl) rfl rfl rfl rfl (by kernel_rfl) (by kernel_rfl) <| DL.fin rfl rfl rfl (.n rfl (.n rfl (.n rfl (.n rfl (.n rfl (.n rfl .nil))))))
                            · obtain rfl := sm hj
                              exact DL.ps 11 rfl rfl hb32 rfl rfl rfl rfl <| DL.ps 12 rfl rfl hb32 rfl rfl rfl rfl <| DL.ps 13 rfl rfl hb32 rfl rfl rfl rfl <| DL.ps 14 rfl rfl hb32 rfl rfl rfl rfl <| DL.ps 15 rfl rfl hb32 rfl rfl rfl rfl <| DL.ps 16 rfl rfl hb32 rfl rfl rfl rfl <| DL.ps 17 rfl rfl hb32 rfl rfl rfl rfl <| DL.ps 18 rfl rfl hb32 rfl rfl rfl rfl <| DL.ps 19 rfl rfl hb32 rfl rfl rfl rfl <| DL.ps 20 rfl rfl hb32 rfl rfl rfl rfl <| DL.ps 21 rfl rfl hb32 rfl rfl rfl rfl <| DL.ps 22 rfl rfl hb32 rfl rfl rfl rfl <| DL.pu 23 rfl rfl rfl rfl rfl rfl <| DL.pu 24 rfl rfl rfl rfl rfl rfl <| DL.pu 25 rfl rfl rfl rfl rfl rfl <| DL.pu 26 rfl rfl rfl rfl rfl rfl <| DL.pu 27 rfl rfl rfl rfl rfl rfl <| DL.pu 28 rfl rfl rfl rfl rfl rfl <| DL.pu 29 rfl rfl rfl rfl rfl rfl <| DL.pu 30 rfl rfl rfl rfl rfl rfl <| DL.pu 31 rfl rfl rfl rfl rfl rfl <| DL.pu 32 rfl rfl rfl rfl rfl rfl <| DL.pu 33 rfl rfl rfl rfl rfl rfl <| DL.pu 34 rfl rfl rfl rfl rfl rfl <| DL.pu 35 rfl rfl rfl rfl rfl rfl <| DL.pu 36 rfl rfl rfl rfl rfl rfl <| DL.pu 37 rfl rfl rfl rfl rfl rfl <| DL.pu 38 rfl rfl rfl rfl rfl rfl <| DL.ps 39 rfl rfl hb32 rfl rfl rfl rfl <| DL.v 40 (O.pkF (.lit rfl) hb32 (.k rfl)) rfl rfl rfl rfl (.yb rfl rfl hb30) <| Dv 41 (O.pkF (.lit rfl) hb30 (.lit rfl)) <| DL.bv 42 (G2 := [(5, iR (eM ePair) x3), (6, .obj [iR eI x4.Base, iR eI x4.Val, iR eI x4.Chk]), (7, I64 s6), (8, I64 s11), (10, I64 s17.2)]) (EO.aG (y' := BB false) rfl rfl (.lit rfl) (.f .nil) .refl (.n rfl (.n rfl (.n rfl (.n rfl (.n rfl .nil))))) rfl rfl) rfl rfl rfl rfl (by kernel_rfl) (by kernel_rfl) <| DL.fin rfl rfl rfl (.n rfl (.n rfl (.n rfl (.n rfl (.n rfl (.n rfl .nil))))))
                          · obtain rfl := sm hj
                            exact DL.ps 5 rfl rfl hb31 rfl rfl rfl rfl <| DL.ps 6 rfl rfl hb31 rfl rfl rfl rfl <| DL.ps 7 rfl rfl hb31 rfl rfl rfl rfl <| DL.ps 8 rfl rfl hb31 rfl rfl rfl rfl <| DL.v 9 (O.pkF (.lit rfl) hb31 (.k rfl)) rfl rfl rfl rfl (.yb rfl rfl hb30) <| DL.v 10 (O.mv (.lit rfl)) rfl rfl rfl rfl (.yb rfl rfl hb30) <| DL.ps 11 rfl rfl rfl rfl rfl rfl rfl <| DL.ps 12 rfl rfl rfl rfl rfl rfl rfl <| DL.ps 13 rfl rfl rfl rfl rfl rfl rfl <| DL.ps 14 rfl rfl rfl rfl rfl rfl rfl <| DL.ps 15 rfl rfl rfl rfl rfl rfl rfl <| DL.ps 16 rfl rfl rfl rfl rfl rfl rfl <| DL.ps 17 rfl rfl rfl rfl rfl rfl rfl <| DL.ps 18 rfl rfl rfl rfl rfl rfl rfl <| DL.ps 19 rfl rfl rfl rfl rfl rfl rfl <| DL.ps 20 rfl rfl rfl rfl rfl rfl rfl <| DL.ps 21 rfl rfl rfl rfl rfl rfl rfl <| DL.ps 22 rfl rfl rfl rfl rfl rfl rfl <| DL.pu 23 rfl rfl rfl rfl rfl rfl <| DL.pu 24 rfl rfl rfl rfl rfl rfl <| DL.pu 25 rfl rfl rfl rfl rfl rfl <| DL.pu 26 rfl rfl rfl rfl rfl rfl <| DL.pu 27 rfl rfl rfl rfl rfl rfl <| DL.pu 28 rfl rfl rfl rfl rfl rfl <| DL.pu 29 rfl rfl rfl rfl rfl rfl <| DL.pu 30 rfl rfl rfl rfl rfl rfl <| DL.pu 31 rfl rfl rfl rfl rfl rfl <| DL.pu 32 rfl rfl rfl rfl rfl rfl <| DL.pu 33 rfl rfl rfl rfl rfl rfl <| DL.pu 34 rfl rfl rfl rfl rfl rfl <| DL.pu 35 rfl rfl rfl rfl rfl rfl <| DL.pu 36 rfl rfl rfl rfl rfl rfl <| DL.pu 37 rfl rfl rfl rfl rfl rfl <| DL.pu 38 rfl rfl rfl rfl rfl rfl <| DL.ps 39 rfl rfl rfl rfl rfl rfl rfl <| DL.v 40 (O.pkF (.lit rfl) rfl (.k rfl)) rfl rfl rfl rfl (.yb rfl rfl hb30) <| Dv 41 (O.pkF (.lit rfl) hb30 (.lit rfl)) <| DL.bv 42 (G2 := [(5, iR (eM ePair) x3), (6, .obj [iR eI x4.Base, iR eI x4.Val, iR eI x4.Chk]), (7, I64 s6), (8, I64 s11), (10, I64 s17.2)]) (EO.aG (y' := BB false) rfl rfl (.lit rfl) (.f .nil) .refl (.n rfl (.n rfl (.n rfl (.n rfl (.n rfl .nil))))) rfl rfl) rfl rfl rfl rfl (by kernel_rfl) (by kernel_rfl) <| DL.fin rfl rfl rfl (.n rfl (.n rfl (.n rfl (.n rfl (.n rfl (.n rfl .nil))))))
                      refine Px.bk ?_
                      obtain rfl := sm h
                      exact Px.jn (.n rfl (.n rfl (.n rfl (.n rfl (.n rfl (.n rfl .nil))))))
                  refine Px.sq ?_
                  refine W.rx [(5, _), (6, _), (7, _), (8, _), (9, _), (10, _)] (Rv (O.mv (.lit rfl)) <| Rv (O.add (.lit rfl) (.k rfl)) <| RunL.re (G1 := [(5, iR (eM ePair) x3), (6, .obj [iR eI x4.Base, iR eI x4.Val, iR eI x4.Chk]), (7, I64 s6), (8, I64 s11), (9, BB j22), (49, I64 (w64 (s17.2 + 1)))]) (.n rfl (.n rfl (.n rfl (.n rfl (.n rfl (.n rfl .nil)))))) <| Rv (O.as (.lit rfl)) <| RunL.fin (.n rfl (.n rfl (.n rfl (.n rfl (.n rfl (.n rfl .nil))))))) ?_
                  obtain rfl := sm h
                  exact Px.go (.n rfl (.n rfl (.n rfl (.n rfl (.n rfl (.n rfl .nil))))))
                · replace h := cndF hb21 h
                  refine W.xi ?_
                  refine Px.sqE ?_
                  obtain rfl := sm h
                  exact Px.x1 (.n rfl (.n rfl (.n rfl (.n rfl (.n rfl .nil)))))
              refine Px.bkH ?_
              refine Px.sq ?_
              refine W.sq' ?_
              refine W.rx [(5, _), (6, _), (7, _), (8, _), (122, _)] (Rv (O.mv (.lit rfl)) <| Rv (O.not (.lit rfl)) <| RunL.fin (.n rfl (.n rfl (.n rfl (.n rfl (.n rfl .nil)))))) ?_
              refine Px.sq ?_
              refine W.cnd rfl (fun hb40 => ?_) (fun hb40 => ?_)
              · replace h := cndT hb40 h
                refine W.sq' ?_
                refine W.rx [(4, _)] (Rv (O.as (.k rfl)) <| RunL.fin (.n rfl .nil)) ?_
                refine Px.sq ?_
                refine W.rt ?_
                refine Px.bkR ?_
                refine Px.sqR ?_
                obtain rfl := sm h
                exact Px.r2 (.n rfl .nil)
              · replace h := cndF hb40 h
                refine W.sk ?_
                refine Px.bk ?_
                refine Px.sq ?_
                refine W.rx [(5, _), (6, _), (7, _), (8, _)] (Rv (O.mv (.lit rfl)) <| Rv (O.add (.lit rfl) (.k rfl)) <| RunL.re (G1 := [(5, iR (eM ePair) x3), (6, .obj [iR eI x4.Base, iR eI x4.Val, iR eI x4.Chk]), (7, I64 s6), (40, I64 (w64 (s11 + 1)))]) (.n rfl (.n rfl (.n rfl (.n rfl .nil)))) <| Rv (O.as (.lit rfl)) <| RunL.fin (.n rfl (.n rfl (.n rfl (.n rfl .nil))))) ?_
                obtain rfl := sm h
                exact Px.go (.n rfl (.n rfl (.n rfl (.n rfl .nil))))
            · replace h := cndF hb16 h
              refine W.xi ?_
              refine Px.sqE ?_
              obtain rfl := sm h
              exact Px.x2 (.n rfl (.n rfl (.n rfl .nil)))
          · subst hx
            refine Px.bkH ?_
            refine Px.bk ?_
            refine Px.sq ?_
            refine W.rx [(5, _), (6, _), (7, _)] (Rv (O.mv (.lit rfl)) <| Rv (O.add (.lit rfl) (.k rfl)) <| RunL.re (G1 := [(5, iR (eM ePair) x3), (6, .obj [iR eI x4.Base, iR eI x4.Val, iR eI x4.Chk]), (31, I64 (w64 (s6 + 1)))]) (.n rfl (.n rfl (.n rfl .nil))) <| Rv (O.as (.lit rfl)) <| RunL.fin (.n rfl (.n rfl (.n rfl .nil)))) ?_
            obtain rfl := sm h
            exact Px.go (.n rfl (.n rfl (.n rfl .nil)))
          · subst hx
            refine Px.bkR ?_
            refine Px.bkR ?_
            refine Px.sqR ?_
            obtain rfl := sm h
            exact Px.r2 (.n rfl .nil)
        · replace h := cndF hb10 h
          refine W.xi ?_
          refine Px.sqE ?_
          obtain rfl := sm h
          exact Px.x2 .nil
      · subst hx
        refine Px.bkH ?_
        refine Px.sq ?_
        refine W.sq' ?_
        refine W.rx [(4, _)] (Rv (O.as (.k rfl)) <| RunL.fin (.n rfl .nil)) ?_
        refine Px.sq ?_
        refine W.rt ?_
        obtain rfl := sm h
        exact Px.fin (Fin.ro (.f rfl rfl .nil) rfl (of_decide_eq_true (by kernel_rfl)) (.no (.no .nil)) rfl (.inr rfl))
      · subst hx
        refine Px.bkR ?_
        refine Px.sqR ?_
        obtain rfl := sm h
        exact Px.fin (Fin.ro (.f rfl rfl .nil) rfl (of_decide_eq_true (by kernel_rfl)) (.no (.no .nil)) rfl (.inr rfl))
def pf12 (a0 : (List (List Int))) (a1 : Int) : Option (Bool) :=
 (pf37 ).bind fun x1 =>
 (bif !x1 then
 some false
 else
 (pf38 a0 a1).bind fun x3 =>
 (loopM (R := List (List Pair)) (fun (s4 : List (List Pair) × Int) =>
 (bif decide (s4.2 < (x3.length : Int)) then
 (idx x3 s4.2).bind fun x8 =>
 (loopM (R := List Pair) (fun (s9 : List Pair × Int) =>
 (bif decide (0 ≤ s9.2) then
 (idx x3 s4.2).bind fun x13 =>
 (idx x13 s9.2).bind fun x14 =>
 (appO s9.1 [x14]).bind fun x15 =>
 some (.inl (s9.1 ++ [x14], w64 (s9.2 - 1)))
 else
 some (.inr s9.1))) (([] : List Pair), w64 ((x8.length : Int) - 1))).bind fun x10 =>
 (appO s4.1 [x10]).bind fun x16 =>
 some (.inl (s4.1 ++ [x10], w64 (s4.2 + 1)))
 else
 some (.inr s4.1))) (([] : List (List Pair)), 0)).bind fun x5 =>
 (pf41 x3).bind fun x17 =>
 (pf41 x5).bind fun x18 =>
 (((pf40 x17 x18).bind fun x19 => (bif x19 then some (decide ((x17.Base.length : Int) = (x3.length : Int))) else some false))).bind fun c21 =>
 some c21)
theorem con12 (a0 : (List (List Int))) (a1 : Int) (r : Bool) (h : pf12 a0 a1 = some r) : Con Try.prog 12 [iR (eM eI) a0, I64 a1] [none, none] (BB r) := by
  unfold pf12 at h
  refine Con.go (N := ⟨62, []⟩) Try.func12 rfl rfl rfl rfl (W.fin ?_)
  refine W.st [(0, iR (eM eI) a0), (1, I64 a1)] ?_
  refine W.sq' ?_
  refine W.rx [(0, _), (1, _)] (Rv (O.as (.k rfl)) <| RunL.fin (.n rfl (.n rfl .nil))) ?_
  refine Px.sq ?_
  refine W.sq' ?_
  refine W.sq' ?_
  obtain ⟨x1, hx1, h⟩ := bnd h
  refine W.rx [(0, _), (1, _), (13, _)] (Rc (PC.go .nil (con37  _ hx1) call37 rfl) <| Rv (O.not (.lit rfl)) <| RunL.fin (.n rfl (.n rfl (.n rfl .nil)))) ?_
  refine Px.sq ?_
  refine W.cnd rfl (fun hb2 => ?_) (fun hb2 => ?_)
  · replace h := cndT hb2 h
    refine W.sq' ?_
    refine W.rx [(4, _)] (Rv (O.as (.k rfl)) <| RunL.fin (.n rfl .nil)) ?_
    refine Px.sq ?_
    refine W.rt ?_
    refine Px.sqR ?_
    obtain rfl := sm h
    exact Px.fin (Fin.ro (.f rfl rfl .nil) rfl (of_decide_eq_true (by kernel_rfl)) (.no (.no .nil)) rfl (.inr rfl))
  · replace h := cndF hb2 h
    refine W.sk ?_
    refine Px.sq ?_
    refine W.sq' ?_
    obtain ⟨x3, hx3, h⟩ := bnd h
    refine W.rx [(5, _)] (Rv (O.mv (.imm rfl)) <| Rv (O.mv (.lit rfl)) <| Rc (PC.go (.cc (.imm rfl) (.cc (.lit rfl) .nil)) (con38 a0 a1 _ hx3) call38 rfl) <| Rv (O.as (.imm rfl)) <| RunL.fin (.n rfl .nil)) ?_
    refine Px.sq ?_
    refine W.sq' ?_
    refine W.rx [(5, _), (6, _)] (Rv (O.as .knil) <| RunL.fin (.n rfl (.n rfl .nil))) ?_
    refine Px.sq ?_
    refine W.sq' ?_
    refine W.sq' ?_
    refine W.rx [(5, _), (6, _), (7, _)] (Rv (O.as (.k rfl)) <| RunL.fin (.n rfl (.n rfl (.n rfl .nil)))) ?_
    refine Px.sq ?_
    refine W.bk ?_
    obtain ⟨x5, hl, h⟩ := bnd h
    refine W.tr (G1 := [(5, iR (eM ePair) x3), (6, oR (eM ePair) ([] : List (List Pair))), (7, I64 0)]) (.n rfl (.w rfl rfl .nilOwn (.n rfl .nil))) ?_
    refine W.lp1 (s := (([] : List (List Pair)), 0)) (fun (s4 : List (List Pair) × Int) => [(5, iR (eM ePair) x3), (6, oR (eM ePair) s4.1), (7, I64 s4.2)]) 0 (fun (x5 : List (List Pair)) => [(5, iR (eM ePair) x3), (6, oR (eM ePair) x5)]) hl (fun s4 o h => ?_) ?_
    · clear hl
      refine W.sq' ?_
      refine W.sq' ?_
      refine W.rx [(5, _), (6, _), (7, _), (20, _)] (Rv (O.mv (.lit rfl)) <| Rv (O.mv (.imm rfl)) <| Rv (O.lenI (.imm rfl) sl78) <| Rv (O.lss (.lit rfl) (.lit rfl)) <| RunL.fin (.n rfl (.n rfl (.n rfl (.n rfl .nil))))) ?_
      refine Px.sq ?_
      refine W.cnd rfl (fun hb7 => ?_) (fun hb7 => ?_)
      · replace h := cndT hb7 h
        refine W.sk ?_
        refine Px.sq ?_
        refine W.sq' ?_
        refine W.bk ?_
        refine W.sq' ?_
        refine W.rx [(5, _), (6, _), (7, _), (8, _)] (Rv (O.as .knil) <| RunL.fin (.n rfl (.n rfl (.n rfl (.n rfl .nil))))) ?_
        refine Px.sq ?_
        refine W.sq' ?_
        refine W.sq' ?_
        obtain ⟨x8, hx8, h⟩ := bnd h
        refine W.rx [(5, _), (6, _), (7, _), (8, _), (9, _)] (Rv (O.mv (.imm rfl)) <| Rv (O.mv (.lit rfl)) <| Rv (O.ixI (.imm rfl) (.lit rfl) sl78 hx8) <| Rv (O.ldI (x := iR ePair x8) (.iptr rfl) ct53 rfl) <| Rv (O.lenI (.imm rfl) sl53) <| Rv (O.sub (.lit rfl) (.k rfl)) <| Rv (O.as (.lit rfl)) <| RunL.fin (.n rfl (.n rfl (.n rfl (.n rfl (.n rfl .nil)))))) ?_
        refine Px.sq ?_
        refine W.bk ?_
        obtain ⟨x10, hl, h⟩ := bnd h
        refine W.tr (G1 := [(5, iR (eM ePair) x3), (6, oR (eM ePair) s4.1), (7, I64 s4.2), (8, oR ePair ([] : List Pair)), (9, I64 (w64 ((x8.length : Int) - 1)))]) (.n rfl (.n rfl (.n rfl (.w rfl rfl .nilOwn (.n rfl .nil))))) ?_
        refine W.lp1 (s := (([] : List Pair), w64 ((x8.length : Int) - 1))) (fun (s9 : List Pair × Int) => [(5, iR (eM ePair) x3), (6, oR (eM ePair) s4.1), (7, I64 s4.2), (8, oR ePair s9.1), (9, I64 s9.2)]) 2 (fun (x10 : List Pair) => [(5, iR (eM ePair) x3), (6, oR (eM ePair) s4.1), (7, I64 s4.2), (8, oR ePair x10)]) hl (fun s9 o h => ?_) ?_
        · clear hl
          refine W.sq' ?_
          refine W.sq' ?_
          refine W.rx [(5, _), (6, _), (7, _), (8, _), (9, _), (30, _)] (Rv (O.mv (.lit rfl)) <| Rv (O.geq (.lit rfl) (.k rfl)) <| RunL.fin (.n rfl (.n rfl (.n rfl (.n rfl (.n rfl (.n rfl .nil))))))) ?_
          refine Px.sq ?_
          refine W.cnd rfl (fun hb12 => ?_) (fun hb12 => ?_)
          · replace h := cndT hb12 h
            refine W.sk ?_
            refine Px.sq ?_
            refine W.sq' ?_
            refine W.bk ?_
            obtain ⟨x13, hx13, h⟩ := bnd h
            obtain ⟨x14, hx14, h⟩ := bnd h
            obtain ⟨x15, hx15, h⟩ := bnd h
            refine W.rx [(5, _), (6, _), (7, _), (8, _), (9, _)] (Rv (O.mv (.own rfl)) <| Rv (O.mv (.imm rfl)) <| Rv (O.mv (.lit rfl)) <| Rv (O.ixI (.imm rfl) (.lit rfl) sl78 hx13) <| Rv (O.ldI (x := iR ePair x13) (.iptr rfl) ct53 rfl) <| Rv (O.mv (.lit rfl)) <| Rv (O.ixI (.imm rfl) (.lit rfl) sl53 hx14) <| Rv (O.ldIN (cs' := [I64 x14.At, I64 x14.Val]) (.iptr rfl) at61 rfl rfl) <| RunL.vi (x := iR ePair [x14]) (O.bs (ys := [.agg [I64 x14.At, I64 x14.Val]]) ePair [x14] sl53 rfl rfl rfl rfl rfl rfl zt61 rfl rfl) rfl rfl .none <| Rv (O.ap (en := ePair) (r := x15) (.brw rfl) rfl (.imm rfl) .i ap53 rfl hx15) <| RunL.ea (G2 := [(5, iR (eM ePair) x3), (6, oR (eM ePair) s4.1), (7, I64 s4.2), (9, I64 s9.2)]) rfl (EO.aP rfl rfl (.pend rfl) rfl rfl rfl (.n rfl rfl (.n rfl rfl (.n rfl rfl (.n rfl rfl .nil)))) rfl rfl) <| RunL.fin (.n rfl (.n rfl (.n rfl (.n rfl (.n rfl .nil)))))) ?_
            refine Px.bk ?_
            refine Px.sq ?_
            refine W.rx [(5, _), (6, _), (7, _), (8, _), (9, _)] (Rv (O.mv (.lit rfl)) <| Rv (O.sub (.lit rfl) (.k rfl)) <| RunL.re (G1 := [(5, iR (eM ePair) x3), (6, oR (eM ePair) s4.1), (7, I64 s4.2), (8, oR ePair (s9.1 ++ [x14])), (32, I64 (w64 (s9.2 - 1)))]) (.n rfl (.n rfl (.n rfl (.n rfl (.n rfl .nil))))) <| Rv (O.as (.lit rfl)) <| RunL.fin (.n rfl (.n rfl (.n rfl (.n rfl (.n rfl .nil)))))) ?_
            obtain rfl := sm h
            exact Px.go (.n rfl (.n rfl (.n rfl (.n rfl (.n rfl .nil)))))
          · replace h := cndF hb12 h
            refine W.xi ?_
            refine Px.sqE ?_
            obtain rfl := sm h
            exact Px.x1 (.n rfl (.n rfl (.n rfl (.n rfl .nil))))
        refine Px.bkH ?_
        refine Px.sq ?_
        obtain ⟨x16, hx16, h⟩ := bnd h
        refine W.rx [(5, _), (6, _), (7, _)] (Rv (O.mv (.own rfl)) <| Rv (O.mv (.own rfl)) <| Rv (O.bsL (ys := [.brw ePair.z ⟨8, []⟩ x10.length]) (cs := [.brw ePair.z ⟨8, []⟩ x10.length]) sl78 rfl rfl rfl rfl rfl zt53 rfl rfl) <| Rv (O.apL (en := (eM ePair)) (M := [x10]) (r := x16) (.brw rfl) rfl (.own rfl) rfl rfl rfl rfl ap78 rfl hx16) <| RunL.ea (G2 := [(5, iR (eM ePair) x3), (7, I64 s4.2)]) rfl (EO.apG (M := [x10]) rfl rfl (.pend rfl) rfl rfl rfl (.r rfl .nil) (.z .nil) rfl rfl (.n rfl (.n rfl .nil)) rfl rfl) <| RunL.fin (.n rfl (.n rfl (.n rfl .nil)))) ?_
        refine Px.bk ?_
        refine Px.sq ?_
        refine W.rx [(5, _), (6, _), (7, _)] (Rv (O.mv (.lit rfl)) <| Rv (O.add (.lit rfl) (.k rfl)) <| RunL.re (G1 := [(5, iR (eM ePair) x3), (6, oR (eM ePair) (s4.1 ++ [x10])), (22, I64 (w64 (s4.2 + 1)))]) (.n rfl (.n rfl (.n rfl .nil))) <| Rv (O.as (.lit rfl)) <| RunL.fin (.n rfl (.n rfl (.n rfl .nil)))) ?_
        obtain rfl := sm h
        exact Px.go (.n rfl (.n rfl (.n rfl .nil)))
      · replace h := cndF hb7 h
        refine W.xi ?_
        refine Px.sqE ?_
        obtain rfl := sm h
        exact Px.x1 (.n rfl (.n rfl .nil))
    refine Px.bkH ?_
    refine Px.sq ?_
    refine W.sq' ?_
    refine W.fz (G1 := [(5, iR (eM ePair) x3), (6, iR (eM ePair) x5)]) [6] (.n rfl rfl (.z rfl rfl .zz .nil)) ?_
    obtain ⟨x17, hx17, h⟩ := bnd h
    obtain ⟨x18, hx18, h⟩ := bnd h
    refine W.rx [(5, _), (10, _), (11, _)] (Rv (O.mv (.imm rfl)) <| Rc (PC.go (.cc (.imm rfl) .nil) (con41 x3 _ hx17) call41 rfl) <| Rv (O.mv (.imm rfl)) <| Rc (PC.go (.cc (.imm rfl) .nil) (con41 x5 _ hx18) call41 rfl) <| Rv (O.al (cs := [.nils, .nils, .nils]) ze83 rfl rfl) <| Rv (O.al (cs := [.nils, .nils, .nils]) ze83 rfl rfl) <| RunL.sO (G2 := [(5, iR (eM ePair) x3), (10, .obj [iR eI x17.Base, iR eI x17.Val, iR eI x17.Chk]), (11, .obj [.nils, .nils, .nils]), (50, .agg [iR eI x18.Base, iR eI x18.Val, iR eI x18.Chk])]) (cs2 := [iR eI x17.Base, iR eI x17.Val, iR eI x17.Chk]) rfl (.obj rfl) (.aggF rfl rfl) rfl sz83 rfl rfl rfl rfl (.n rfl rfl (.b rfl (.n rfl rfl (.n rfl rfl .nil)))) <| RunL.sO (G2 := [(5, iR (eM ePair) x3), (10, .obj [iR eI x17.Base, iR eI x17.Val, iR eI x17.Chk]), (11, .obj [iR eI x18.Base, iR eI x18.Val, iR eI x18.Chk])]) (cs2 := [iR eI x18.Base, iR eI x18.Val, iR eI x18.Chk]) rfl (.obj rfl) (.aggF rfl rfl) rfl sz83 rfl rfl rfl rfl (.n rfl rfl (.n rfl rfl (.b rfl .nil))) <| RunL.fin (.n rfl (.n rfl (.n rfl .nil)))) ?_
    refine Px.sq ?_
    refine W.sq' ?_
    obtain ⟨c21, hj, h⟩ := bnd h
    refine W.rx [(4, BB c21)] ?_ ?_
    · refine Rv (O.ldON (cs' := [iR eI x17.Base, iR eI x17.Val, iR eI x17.Chk]) rfl (.obj rfl) at83 rfl rfl) <| Rv (O.ldON (cs' := [iR eI x18.Base, iR eI x18.Val, iR eI x18.Chk]) rfl (.obj rfl) at83 rfl rfl) ?_
      obtain ⟨x19, hx19, hj⟩ := bnd hj
      refine Rc (PC.go (.cc (.aggF rfl rfl) (.cc (.aggF rfl rfl) .nil)) (con40 x17 x18 _ hx19) call40 rfl) <| Rv (O.mv (.lit rfl)) ?_
      rcases cnd hj with ⟨hb20, hj⟩ | ⟨hb20, hj⟩
      · obtain rfl := sm hj
        exact RunL.v (O.fO rfl (.obj rfl) fd83_0 rfl) rfl rfl (.yb rfl rfl hb20) <| RunL.v (O.ldO (y := iR eI x17.Base) rfl (.ptr rfl) ct33 rfl rfl) rfl rfl (.yb rfl rfl hb20) <| RunL.v (O.lenI (.imm rfl) sl33) rfl rfl (.yb rfl rfl hb20) <| RunL.v (O.mv (.imm rfl)) rfl rfl (.yb rfl rfl hb20) <| RunL.v (O.lenI (.imm rfl) sl78) rfl rfl (.yb rfl rfl hb20) <| RunL.v (O.eql (.lit rfl) (.lit rfl)) rfl rfl (.yb rfl rfl hb20) <| Rv (O.pkT (.lit rfl) hb20 (.lit rfl)) <| Rv (O.as (.lit rfl)) <| RunL.fin (.n rfl .nil)
      · obtain rfl := sm hj
        exact RunL.ps rfl rfl hb20 rfl rfl <| RunL.ps rfl rfl hb20 rfl rfl <| RunL.ps rfl rfl hb20 rfl rfl <| RunL.ps rfl rfl hb20 rfl rfl <| RunL.ps rfl rfl hb20 rfl rfl <| RunL.ps rfl rfl hb20 rfl rfl <| Rv (O.pkF (.lit rfl) hb20 (.k rfl)) <| Rv (O.as (.lit rfl)) <| RunL.fin (.n rfl .nil)
    refine Px.sq ?_
    refine W.rt ?_
    obtain rfl := sm h
    exact Px.fin (Fin.ro (.f rfl rfl .nil) rfl (of_decide_eq_true (by kernel_rfl)) (.no (.no .nil)) rfl (.inr rfl))
end Go.Proofs
namespace Go.Proofs
open Go Go.Own
theorem w37 : pf37 = some true := by kernel_rfl
end Go.Proofs
namespace Go.Own
open Go
variable {α β S R : Type}
abbrev LR (p : S → Prop) (q : R → Prop) (x : S ⊕ R) : Prop := Sum.elim p q x
def Tot (x : Option α) (Φ : α → Prop) : Prop := ∃ a, x = some a ∧ Φ a
namespace Tot
variable {Φ Ψ : α → Prop}
theorem so {a : α} (h : Φ a) : Tot (some a) Φ := ⟨a, rfl, h⟩
theorem bi {x : Option β} {f : β → Option α} (h : Tot x fun a => Tot (f a) Φ) : Tot (x.bind f) Φ := by
  obtain ⟨a, rfl, b, hb, hΦ⟩ := h
  exact ⟨b, hb, hΦ⟩
theorem sm {f : β → Option α} {a : β} (h : Tot (f a) Φ) : Tot ((some a).bind f) Φ := h
theorem use {x : Option α} (h : Tot x Ψ) (hi : ∀ a, Ψ a → Φ a) : Tot x Φ := by
  obtain ⟨a, ha, hΨ⟩ := h
  exact ⟨a, ha, hi a hΨ⟩
theorem by' {x : Option β} {f : β → Option α} {Ξ : β → Prop} (h : Tot x Ξ) (hk : ∀ a, Ξ a → Tot (f a) Φ) : Tot (x.bind f) Φ := bi (h.use hk)
theorem cd {c : Bool} {a b : Option α} (ht : c = true → Tot a Φ) (hf : c = false → Tot b Φ) : Tot (cond c a b) Φ := by
  cases c
  · exact hf rfl
  · exact ht rfl
theorem cp {p : Prop} [Decidable p] {a b : Option α} (ht : p → Tot a Φ) (hf : ¬ p → Tot b Φ) : Tot (cond (decide p) a b) Φ :=
  cd (fun h => ht (of_decide_eq_true h)) (fun h => hf (of_decide_eq_false h))
theorem cn {p : Prop} [Decidable p] {a b : Option α} (ht : ¬ p → Tot a Φ) (hf : p → Tot b Φ) : Tot (cond (!decide p) a b) Φ :=
  cd (fun h => ht (of_decide_eq_false (by simpa using h))) (fun h => hf (of_decide_eq_true (by simpa using h)))
theorem ap {Φ : List α → Prop} {l m : List α} (h : l.length + m.length ≤ lim) (hk : Φ (l ++ m)) : Tot (appO l m) Φ := by
  refine ⟨l ++ m, ?_, hk⟩
  unfold appO
  rw [if_pos h]
theorem loop {f : S → Option (S ⊕ R)} {s0 : S} {Ψ : R → Prop} (Inv : S → Prop) (μ : S → Nat) (h0 : Inv s0) (hμ : μ s0 < fuel)
    (hs : ∀ s, Inv s → Tot (f s) (LR (fun s' => Inv s' ∧ μ s' < μ s) Ψ)) : Tot (loopM f s0) Ψ := by
  have key : ∀ n s, Inv s → μ s < n → Tot (iter f n s) Ψ := by
    intro n
    induction n with
    | zero => intro s _ h; omega
    | succ n ih =>
      intro s hI hm
      obtain ⟨x, hx, hP⟩ := hs s hI
      cases x with
      | inl s' =>
        obtain ⟨h1, h2⟩ := hP
        simp only [iter, hx]
        exact ih s' h1 (by omega)
      | inr r =>
        simp only [iter, hx]
        exact ⟨r, rfl, hP⟩
  exact key fuel s0 h0 hμ
theorem count {f : S → Option (S ⊕ R)} {s0 : S} {Ψ : R → Prop} (i : S → Int) (n : Int) (Inv : S → Prop) (h0 : Inv s0) (hn : n - i s0 < 1000000000000000000)
    (hs : ∀ s, Inv s → Tot (f s) (LR (fun s' => Inv s' ∧ i s < i s' ∧ i s' ≤ n) Ψ)) : Tot (loopM f s0) Ψ := by
  refine loop Inv (fun s => (n - i s).toNat) h0 (by show (n - i s0).toNat < 1000000000000000000; omega) fun s hI => (hs s hI).use fun x hx => ?_
  cases x with
  | inl s' => exact ⟨hx.1, by have := hx.2; show (n - i s').toNat < (n - i s).toNat; omega⟩
  | inr r => exact hx
end Tot
theorem w64_eq (n : Int) : w64 n = (n + 9223372036854775808) % 18446744073709551616 - 9223372036854775808 := IntKind.wrap_i64 n
namespace Tot
theorem cut {Φ : ByteArray → Prop} {s : ByteArray} {m n : Int} (h : 0 ≤ m ∧ m ≤ n ∧ n ≤ s.size) (hk : Φ (cutS s m n)) : Tot (cutO s m n) Φ := by
  refine ⟨_, ?_, hk⟩
  unfold cutO
  rw [if_pos h]
theorem sub {Φ : List α → Prop} {l : List α} {m n : Int} (h : 0 ≤ m ∧ m ≤ n ∧ n ≤ l.length) (hk : Φ ((l.drop m.toNat).take (n - m).toNat)) : Tot (subO l m n) Φ := by
  refine ⟨_, ?_, hk⟩
  unfold subO
  rw [if_pos h]
theorem rem {Φ : Int → Prop} {m n : Int} (h : n ≠ 0) (hk : Φ (m.tmod n)) : Tot (remO m n) Φ := by
  refine ⟨_, ?_, hk⟩
  unfold remO
  rw [if_neg h]
theorem mk {Φ : List α → Prop} {m : Int} {z : α} (h : 0 ≤ m ∧ m ≤ lim) (hk : Φ (List.replicate m.toNat z)) : Tot (mkO m z) Φ := by
  refine ⟨_, ?_, hk⟩
  unfold mkO
  rw [if_pos h]
theorem ex {x : Option α} {Φ : α → Prop} (h : Tot x Φ) : ∃ a, x = some a ∧ Φ a := h
end Tot
namespace Tot
theorem scan {f : Int → Option (Int ⊕ (Unit ⊕ R))} (l : List β) (P : β → Prop) (Q : R → Prop) (hl : l.length ≤ 100000000000000000)
    (hs : ∀ (s : Int) (y : β), 0 ≤ s → s < l.length → idx l s = some y → y ∈ l → Tot (f s) (LR (fun s' => s' = s + 1 ∧ P y) (LR (fun _ => False) Q)))
    (he : ∀ s : Int, ¬ s < l.length → f s = some (.inr (.inl ()))) : Tot (loopM f 0) (LR (fun _ => ∀ y ∈ l, P y) Q) := by
  refine count (fun s => s) l.length (fun s => 0 ≤ s ∧ s ≤ l.length ∧ ∀ (j : Nat) (y : β), (j : Int) < s → l[j]? = some y → P y) ⟨by omega, by omega, fun j y h => by omega⟩ (by show (l.length : Int) - 0 < _; omega) fun s hI => ?_
  obtain ⟨h0, h1, h2⟩ := hI
  by_cases hlt : s < l.length
  · have hlt' : s.toNat < l.length := by omega
    have hi : idx l s = some l[s.toNat] := by simp [idx, h0, hlt']
    refine (hs s _ h0 hlt hi (List.getElem_mem hlt')).use fun x hx => ?_
    rcases x with s' | ⟨⟨⟩⟩ | r
    · obtain ⟨rfl, hP⟩ := hx
      refine ⟨⟨by omega, by omega, fun j y hj hy => ?_⟩, by show s < s + 1; omega, by show s + 1 ≤ _; omega⟩
      by_cases hjs : (j : Int) < s
      · exact h2 j y hjs hy
      · have : j = s.toNat := by omega
        subst this
        rw [List.getElem?_eq_getElem hlt'] at hy
        cases hy; exact hP
    · exact hx.elim
    · exact hx
  · rw [he s hlt]
    refine so fun y hy => ?_
    obtain ⟨j, hj, rfl⟩ := List.mem_iff_getElem.1 hy
    exact h2 j _ (by omega) (List.getElem?_eq_getElem hj)
end Tot
end Go.Own
namespace Go.Proofs
open Go Go.Own
set_option maxRecDepth 100000
set_option linter.unusedVariables false
abbrev Rw := List Pair
structure RowOk (r : Rw) : Prop where
  at' : ∀ p ∈ r, 0 ≤ p.At ∧ p.At ≤ 999
  nd : (r.map (·.At)).Nodup
def Fit (chk : List Int) (r : Rw) (b : Nat) : Prop := ∀ p ∈ r, chk.getD (b + p.At.toNat) 0 = 0
theorem idx_nat {α : Type} {l : List α} {k : Nat} (h : k < l.length) : idx l (k : Int) = some l[k] := by simp [idx, h]
theorem c93 (p : Pair) (b : Nat) (chk : List Int) (hp : 0 ≤ p.At ∧ p.At ≤ 999) (hb : b ≤ 1000000000000) (hc : chk.length ≤ 1000000000000) : Tot (pf93 p b chk) fun c => (c = true ↔ chk.getD (b + p.At.toNat) 0 ≠ 0) := by
  unfold pf93
  have hw : w64 ((b : Int) + p.At) = ((b + p.At.toNat : Nat) : Int) := by rw [w64_eq]; omega
  rw [hw]
  refine .by' (Ξ := fun c => (c = true ↔ chk.getD (b + p.At.toNat) 0 ≠ 0)) (Tot.cp (fun h => ?_) (fun h => .so ?_)) fun c hc => .so hc
  · have hl : b + p.At.toNat < chk.length := by omega
    rw [idx_nat hl]
    refine Tot.sm (.so ?_)
    rw [List.getD_eq_getElem?_getD, List.getElem?_eq_getElem hl]
    simp
  · have hl : ¬ b + p.At.toNat < chk.length := by omega
    rw [List.getD_eq_getElem?_getD, List.getElem?_eq_none (by omega)]
    simp
theorem c68 (chk : List Int) (r : Rw) (b : Nat) (hr : ∀ p ∈ r, 0 ≤ p.At ∧ p.At ≤ 999) (hl : r.length ≤ 100000) (hb : b ≤ 1000000000000) (hc : chk.length ≤ 1000000000000) : Tot (pf68 chk r b) fun c => (c = true ↔ Fit chk r b) := by
  unfold pf68 pf92_93 pf126_93
  refine .by' (Ξ := fun x => x = true ↔ ¬ Fit chk r b) (.by' (Ξ := fun x => (x = -1 ∧ Fit chk r b) ∨ (0 ≤ x ∧ ¬ Fit chk r b)) ?_ fun x hx => .so ?_) fun x hx => .so ?_
  · refine Tot.by' (Tot.scan r (fun p => chk.getD (b + p.At.toNat) 0 = 0) (fun x : Int => 0 ≤ x ∧ ¬ Fit chk r b) (by omega) (fun s y h0 h1 hi hm => ?_) (fun s hs => by simp [hs])) fun x hx => ?_
    · refine Tot.cp (fun _ => ?_) (fun h => absurd h1 h)
      rw [hi]
      refine Tot.sm (.by' (c93 y b chk (hr y hm) hb hc) fun c hcc => Tot.cd (fun h => .so ⟨h0, fun hf => (hcc.1 h) (hf y hm)⟩) (fun h => .so ⟨?_, ?_⟩))
      · rw [w64_eq]; omega
      · exact Classical.byContradiction fun hn => by rw [hcc.2 hn] at h; cases h
    · rcases x with _ | x
      · exact .so (.inl ⟨rfl, hx⟩)
      · exact .so (.inr hx)
  · rcases hx with ⟨rfl, hf⟩ | ⟨h0, hf⟩
    · simp [hf]
    · simp [h0, hf]
  · cases x <;> simp_all
theorem c35 (l : List Int) (n : Int) (h : l.length ≤ 100000) : Tot (pf35 l n) fun c => (c = true ↔ n ∈ l) := by
  unfold pf35
  refine Tot.by' (Tot.scan l (fun x => x ≠ n) (fun x : Bool => x = true ∧ n ∈ l) (by omega) (fun s y h0 h1 hi hm => ?_) (fun s hs => by simp [hs])) fun x hx => ?_
  · refine Tot.cp (fun _ => ?_) (fun h => absurd h1 h)
    rw [hi]
    refine Tot.sm (Tot.cp (fun e => .so ⟨rfl, e ▸ hm⟩) (fun e => .so ⟨?_, e⟩))
    rw [w64_eq]; omega
  · rcases x with _ | x
    · have hx : ∀ y ∈ l, y ≠ n := hx
      exact .so ⟨fun h => (by cases h), fun h => absurd rfl (hx n h)⟩
    · obtain ⟨rfl, hm⟩ : x = true ∧ n ∈ l := hx
      exact .so ⟨fun _ => hm, fun _ => rfl⟩
theorem c48 (l : List Int) (h : l.length ≤ 100000000000000000) : Tot (pf48 l l) fun c => c = true := by
  unfold pf48
  refine Tot.cn (fun h => absurd rfl h) (fun _ => ?_)
  refine Tot.by' (Tot.scan l (fun _ => True) (fun _ => False) h (fun s y h0 h1 hi hm => ?_) (fun s hs => by simp [hs])) fun x hx => ?_
  · refine Tot.cp (fun _ => ?_) (fun h => absurd h1 h)
    rw [hi]
    refine Tot.sm (Tot.sm (Tot.cn (fun h => absurd rfl h) (fun _ => .so ⟨?_, trivial⟩)))
    rw [w64_eq]; omega
  · rcases x with _ | x
    · exact .so rfl
    · exact (hx : False).elim
theorem c40 (c : Comb) (h1 : c.Base.length ≤ 100000000000000000) (h2 : c.Val.length ≤ 100000000000000000) (h3 : c.Chk.length ≤ 100000000000000000) : Tot (pf40 c c) fun c => c = true := by
  unfold pf40
  refine .by' (Ξ := fun c => c = true) (.by' (c48 _ h1) fun x hx => Tot.cd (fun _ => .by' (c48 _ h2) fun y hy => Tot.cd (fun _ => .by' (c48 _ h3) fun z hz => .so hz) (fun h => by rw [hy] at h; cases h)) (fun h => by rw [hx] at h; cases h)) fun c hc => .so hc
theorem c62 (a b : Int) : pf62 a b = some (if a < b then -1 else if b < a then 1 else 0) := by
  unfold pf62
  have h : ∀ x, pf91 x = some false := fun x => by simp [pf91]
  rw [h, h]
  by_cases h1 : a < b
  · simp [h1]
  · by_cases h2 : b < a <;> simp [h1, h2]
theorem c67 (a b : Int) : pf67 [a, b] = some (if a = 0 then b else a) := by
  unfold pf67
  have l1 : ∀ (f : Int → Option (Int ⊕ (Unit ⊕ Int))), f 0 = (if a = 0 then some (.inl 1) else some (.inr (.inr a))) → f 1 = (if b = 0 then some (.inl 2) else some (.inr (.inr b))) → f 2 = some (.inr (.inl ())) → loopM f 0 = some (if a = 0 then (if b = 0 then .inl () else .inr b) else .inr a) := by
    intro f x y z
    show iter f (999999999999999997 + 1 + 1 + 1) _ = _
    by_cases ha : a = 0
    · by_cases hb : b = 0 <;> simp only [iter, x, y, z, ha, hb, if_true, if_false]
    · simp only [iter, x, ha, if_false]
  rw [l1 _ ?_ ?_ ?_]
  · by_cases ha : a = 0
    · by_cases hb : b = 0 <;> simp [ha, hb]
    · simp [ha]
  · show (bif decide ((0 : Int) < 2) then _ else _) = _
    have e : idx [a, b] 0 = some a := rfl
    simp only [e, Option.bind_some]
    by_cases ha : a = 0 <;> simp [ha]
    rfl
  · show (bif decide ((1 : Int) < 2) then _ else _) = _
    have e : idx [a, b] 1 = some b := rfl
    simp only [e, Option.bind_some]
    by_cases hb : b = 0 <;> simp [hb]
    rfl
  · rfl
def Bef (rows : List Rw) (a b : Int) : Prop := ∃ x y, idx rows a = some x ∧ idx rows b = some y ∧ (y.length < x.length ∨ (x.length = y.length ∧ a < b))
theorem idx_some' {α : Type} {l : List α} {i : Int} (h0 : 0 ≤ i) (h1 : i < l.length) : ∃ y, idx l i = some y ∧ y ∈ l := by
  have hlt : i.toNat < l.length := by omega
  exact ⟨l[i.toNat], by simp [idx, h0, hlt], List.getElem_mem hlt⟩
theorem c66 (rows : List Rw) (a b : Int) (ha : 0 ≤ a ∧ a < rows.length) (hb : 0 ≤ b ∧ b < rows.length) : ∃ v, pf66 a b rows = some v ∧ (v < 0 ↔ Bef rows a b) := by
  obtain ⟨x, hx, _⟩ := idx_some' ha.1 ha.2
  obtain ⟨y, hy, _⟩ := idx_some' hb.1 hb.2
  unfold pf66
  rw [hx, hy]
  simp only [Option.bind_some, c62, c67]
  have hB : Bef rows a b ↔ (y.length < x.length ∨ (x.length = y.length ∧ a < b)) := by
    unfold Bef
    rw [hx, hy]
    constructor
    · rintro ⟨x', y', e1, e2, h⟩
      cases e1; cases e2; exact h
    · intro h
      exact ⟨x, y, rfl, rfl, h⟩
  refine ⟨_, rfl, ?_⟩
  rw [hB]
  by_cases h1 : (y.length : Int) < x.length
  · simp only [h1, if_true]
    rw [if_neg (by decide)]
    constructor
    · intro _; exact .inl (by omega)
    · intro _; decide
  · by_cases h2 : (x.length : Int) < y.length
    · simp only [h1, h2, if_true, if_false]
      rw [if_neg (by decide)]
      constructor
      · intro h; exact absurd h (by decide)
      · rintro (h | ⟨h, _⟩) <;> omega
    · simp only [h1, h2, if_false, if_true]
      by_cases h3 : a < b
      · simp only [h3, if_true]
        constructor
        · intro _; exact .inr ⟨by omega, trivial⟩
        · intro _; decide
      · simp only [h3, if_false]
        constructor
        · intro h
          split at h <;> omega
        · rintro (h | ⟨_, h⟩)
          · omega
          · exact h.elim
end Go.Proofs
namespace Go.Proofs
open Go Go.Own
set_option maxRecDepth 100000
set_option linter.unusedVariables false
structure Put (c : Comb) (r : Rw) (i b : Nat) (v ch : List Int) : Prop where
  len : v.length = ch.length
  lo : c.Chk.length ≤ ch.length
  in' : ∀ p ∈ r, b + p.At.toNat < ch.length
  hi : ch.length = c.Chk.length ∨ ∃ p ∈ r, ch.length = b + p.At.toNat + 1
  chk : ∀ p ∈ r, ch.getD (b + p.At.toNat) 0 = (i : Int) + 1
  chn : ∀ k, (∀ p ∈ r, b + p.At.toNat ≠ k) → ch.getD k 0 = c.Chk.getD k 0
  val : ∀ p ∈ r, v.getD (b + p.At.toNat) 0 = p.Val
  van : ∀ k, (∀ p ∈ r, b + p.At.toNat ≠ k) → v.getD k 0 = c.Val.getD k 0
structure Step (r : Rw) (i : Nat) (c c' : Comb) (b : Nat) : Prop where
  fit : Fit c.Chk r b
  least : ∀ b', b' < b → ¬ Fit c.Chk r b'
  base : c'.Base = c.Base.set i (b : Int)
  put : Put c r i b c'.Val c'.Chk
theorem ext_getD {l m : List Int} (hl : l.length = m.length) (h : ∀ k, l.getD k 0 = m.getD k 0) : l = m := by
  apply List.ext_getElem hl
  intro k h1 h2
  have := h k
  simpa [List.getD_eq_getElem?_getD, List.getElem?_eq_getElem h1, List.getElem?_eq_getElem h2] using this
theorem Fit.same {chk : List Int} {r r' : Rw} (h : ∀ p, p ∈ r ↔ p ∈ r') {b : Nat} : Fit chk r b ↔ Fit chk r' b :=
  ⟨fun f p hp => f p ((h p).2 hp), fun f p hp => f p ((h p).1 hp)⟩
theorem Put.det {c : Comb} {r r' : Rw} {i b : Nat} {v ch v' ch' : List Int} (hl : c.Val.length = c.Chk.length) (hm : ∀ p, p ∈ r ↔ p ∈ r') (h : Put c r i b v ch) (h' : Put c r' i b v' ch') : v = v' ∧ ch = ch' := by
  have le : ∀ {r r' : Rw} {v ch v' ch' : List Int}, (∀ p, p ∈ r ↔ p ∈ r') → Put c r i b v ch → Put c r' i b v' ch' → ch'.length ≤ ch.length := by
    intro r r' v ch v' ch' hm h h'
    rcases h'.hi with e | ⟨p, hp, e⟩
    · rw [e]; exact h.lo
    · have := h.in' p ((hm p).2 hp); omega
  have hlen : ch.length = ch'.length := Nat.le_antisymm (le (fun p => (hm p).symm) h' h) (le hm h h')
  refine ⟨ext_getD (by rw [h.len, h'.len, hlen]) fun k => ?_, ext_getD hlen fun k => ?_⟩
  · by_cases hk : ∃ p ∈ r, b + p.At.toNat = k
    · obtain ⟨p, hp, rfl⟩ := hk
      rw [h.val p hp, h'.val p ((hm p).1 hp)]
    · have hk : ∀ p ∈ r, b + p.At.toNat ≠ k := fun p hp e => hk ⟨p, hp, e⟩
      rw [h.van k hk, h'.van k fun p hp => hk p ((hm p).2 hp)]
  · by_cases hk : ∃ p ∈ r, b + p.At.toNat = k
    · obtain ⟨p, hp, rfl⟩ := hk
      rw [h.chk p hp, h'.chk p ((hm p).1 hp)]
    · have hk : ∀ p ∈ r, b + p.At.toNat ≠ k := fun p hp e => hk ⟨p, hp, e⟩
      rw [h.chn k hk, h'.chn k fun p hp => hk p ((hm p).2 hp)]
theorem Step.det {r r' : Rw} {i b b' : Nat} {c c1 c2 : Comb} (hl : c.Val.length = c.Chk.length) (hm : ∀ p, p ∈ r ↔ p ∈ r') (h : Step r i c c1 b) (h' : Step r' i c c2 b') : b = b' ∧ c1 = c2 := by
  have hb : b = b' := by
    rcases Nat.lt_trichotomy b b' with hlt | e | hlt
    · exact absurd ((Fit.same hm).1 h.fit) (h'.least b hlt)
    · exact e
    · exact absurd ((Fit.same hm).2 h'.fit) (h.least b' hlt)
  subst hb
  obtain ⟨e1, e2⟩ := h.put.det hl hm h'.put
  refine ⟨rfl, ?_⟩
  cases c1; cases c2
  simp only at e1 e2
  have h1 := h.base
  have h2 := h'.base
  simp only at h1 h2
  subst e1 e2 h1
  rw [h2]
inductive Lst (rows : List Rw) : List Nat → Comb → Prop
  | nil : Lst rows [] ⟨List.replicate rows.length 0, [], []⟩
  | cons {i b : Nat} {l : List Nat} {c c' : Comb} {r : Rw} (hr : rows[i]? = some r) (hi : i ∉ l) (h : Lst rows l c) (hs : Step r i c c' b) : Lst rows (i :: l) c'
theorem Lst.len {rows : List Rw} {l : List Nat} {c : Comb} (h : Lst rows l c) : c.Val.length = c.Chk.length ∧ c.Base.length = rows.length := by
  induction h with
  | nil => simp
  | cons _ _ _ hs ih => exact ⟨hs.put.len, by rw [hs.base, List.length_set]; exact ih.2⟩
theorem Lst.det {rows rows' : List Rw} (hl : rows.length = rows'.length) (hm : ∀ (i : Nat) (r r' : Rw), rows[i]? = some r → rows'[i]? = some r' → ∀ p, p ∈ r ↔ p ∈ r') {l : List Nat} {c c' : Comb} (h : Lst rows l c) (h' : Lst rows' l c') : c = c' := by
  induction h generalizing c' with
  | nil => cases h' with | nil => rw [hl]
  | cons hr hi h hs ih =>
    cases h' with
    | cons hr' hi' h' hs' =>
      have := ih h'
      subst this
      exact (hs.det h.len.1 (hm _ _ _ hr hr') hs').2
theorem Lst.rest {rows : List Rw} {l : List Nat} {c : Comb} (h : Lst rows l c) : ∀ j, j < rows.length → j ∉ l → c.Base[j]? = some 0 := by
  induction h with
  | nil => intro j hj _; simp [hj]
  | @cons i b l c c' r hr hi h hs ih =>
    intro j hj hn
    rw [hs.base, List.getElem?_set_ne (by rintro rfl; exact hn (by simp))]
    exact ih j hj fun hh => hn (by simp [hh])
theorem pad (x y : Int) (K : Nat) (hK : w64 (x + y) = (K : Int)) (hK2 : K ≤ 1000000000) (v ch : List Int) (hl : v.length = ch.length) (hb : ch.length ≤ 1000000000) :
    Tot (loopM (R := List Int × List Int) (fun (s : List Int × List Int) =>
(bif decide ((s.2.length : Int) ≤ w64 (x + y)) then
(appO s.2 [0]).bind fun x38 =>
(appO s.1 [0]).bind fun x39 =>
some (.inl (s.1 ++ [0], s.2 ++ [0]))
else
some (.inr (s.1, s.2)))) (v, ch)) fun r => r.1.length = r.2.length ∧ r.2.length = max ch.length (K + 1) ∧ (∀ k, r.1.getD k 0 = v.getD k 0) ∧ ∀ k, r.2.getD k 0 = ch.getD k 0 := by
  have app : ∀ (l : List Int) k, (l ++ [0]).getD k 0 = l.getD k 0 := by
    intro l k
    rw [List.getD_eq_getElem?_getD, List.getD_eq_getElem?_getD]
    by_cases hk : k < l.length
    · rw [List.getElem?_append_left hk]
    · rw [List.getElem?_append_right (by omega), List.getElem?_eq_none (l := l) (by omega)]
      by_cases h0 : k - l.length = 0
      · rw [h0]; rfl
      · rw [List.getElem?_eq_none (by simp; omega)]
  refine Tot.loop (fun s => s.1.length = s.2.length ∧ ch.length ≤ s.2.length ∧ s.2.length ≤ max ch.length (K + 1) ∧ (∀ k, s.1.getD k 0 = v.getD k 0) ∧ ∀ k, s.2.getD k 0 = ch.getD k 0) (fun s => (K + 1) - s.2.length) ⟨hl, Nat.le_refl _, Nat.le_max_left _ _, fun _ => rfl, fun _ => rfl⟩ (by show (K + 1) - ch.length < 1000000000000000000; omega) fun s hs => ?_
  obtain ⟨h1, h2, h3, h4, h5⟩ := hs
  rw [hK]
  refine Tot.cp (fun hle => ?_) (fun hgt => .so ⟨h1, ?_, h4, h5⟩)
  · refine .by' (Ξ := fun _ => True) (Tot.ap (by simp [lim]; omega) trivial) fun _ _ => .by' (Ξ := fun _ => True) (Tot.ap (by simp [lim]; omega) trivial) fun _ _ => .so ⟨⟨?_, ?_, ?_, fun k => ?_, fun k => ?_⟩, ?_⟩
    · show (s.1 ++ [0]).length = (s.2 ++ [0]).length; simp [h1]
    · show ch.length ≤ (s.2 ++ [0]).length; simp; omega
    · show (s.2 ++ [0]).length ≤ _; simp; omega
    · exact (app _ _).trans (h4 k)
    · exact (app _ _).trans (h5 k)
    · show (K + 1) - (s.2 ++ [0]).length < (K + 1) - s.2.length
      simp; omega
  · show s.2.length = _; omega
theorem getD_set (l : List Int) (K k : Nat) (x : Int) (h : K < l.length) : (l.set K x).getD k 0 = if k = K then x else l.getD k 0 := by
  rw [List.getD_eq_getElem?_getD, List.getElem?_set]
  by_cases e : k = K
  · subst e; simp [h]
  · simp [e, Ne.symm e, List.getD_eq_getElem?_getD]
theorem Put.more {c : Comb} {r : Rw} {p : Pair} {i b : Nat} {v ch v' ch' : List Int} (h : Put c r i b v ch) (hp : ∀ q ∈ r, q.At.toNat ≠ p.At.toNat) (hl : v'.length = ch'.length) (hlen : ch'.length = max ch.length (b + p.At.toNat + 1)) (hv : ∀ k, v'.getD k 0 = v.getD k 0) (hc : ∀ k, ch'.getD k 0 = ch.getD k 0) :
    Put c (r ++ [p]) i b (v'.set (b + p.At.toNat) p.Val) (ch'.set (b + p.At.toNat) ((i : Int) + 1)) := by
  have hK : b + p.At.toNat < ch'.length := by omega
  have mem : ∀ {Q : Pair → Prop}, (∀ q ∈ r, Q q) → Q p → ∀ q ∈ r ++ [p], Q q := fun h1 h2 q hq => by
    rcases List.mem_append.1 hq with hq | hq
    · exact h1 q hq
    · rw [List.mem_singleton.1 hq]; exact h2
  refine ⟨by simp [hl], ?_, mem (fun q hq => ?_) ?_, ?_, mem (fun q hq => ?_) ?_, fun k hk => ?_, mem (fun q hq => ?_) ?_, fun k hk => ?_⟩
  · rw [List.length_set]; have := h.lo; omega
  · rw [List.length_set]; have := h.in' q hq; omega
  · rw [List.length_set]; exact hK
  · rw [List.length_set]
    by_cases hm : ch.length ≤ b + p.At.toNat + 1
    · exact .inr ⟨p, by simp, by omega⟩
    · rcases h.hi with e | ⟨q, hq, e⟩
      · exact .inl (by omega)
      · exact .inr ⟨q, by simp [hq], by omega⟩
  · rw [getD_set _ _ _ _ hK, if_neg (by have := hp q hq; omega), hc]; exact h.chk q hq
  · rw [getD_set _ _ _ _ hK, if_pos rfl]
  · rw [getD_set _ _ _ _ hK, if_neg (fun e => hk p (by simp) e.symm), hc]; exact h.chn k fun q hq => hk q (by simp [hq])
  · rw [getD_set _ _ _ _ (by rw [hl]; exact hK), if_neg (by have := hp q hq; omega), hv]; exact h.val q hq
  · rw [getD_set _ _ _ _ (by rw [hl]; exact hK), if_pos rfl]
  · rw [getD_set _ _ _ _ (by rw [hl]; exact hK), if_neg (fun e => hk p (by simp) e.symm), hv]; exact h.van k fun q hq => hk q (by simp [hq])
theorem Put.nil (c : Comb) (i b : Nat) (hl : c.Val.length = c.Chk.length) : Put c [] i b c.Val c.Chk :=
  ⟨hl, Nat.le_refl _, fun _ h => absurd h (by simp), .inl rfl, fun _ h => absurd h (by simp), fun _ _ => rfl, fun _ h => absurd h (by simp), fun _ _ => rfl⟩
theorem Fit.far {chk : List Int} {r : Rw} {b : Nat} (h : chk.length ≤ b) : Fit chk r b := fun p _ => by
  rw [List.getD_eq_getElem?_getD, List.getElem?_eq_none (by omega)]; rfl
theorem set_nd {r : Rw} {k : Nat} (hr : RowOk r) (hk : k < r.length) : ∀ q ∈ r.take k, q.At.toNat ≠ (r[k]).At.toNat := by
  intro q hq e
  obtain ⟨j, hj, rfl⟩ := List.mem_iff_getElem.1 hq
  rw [List.length_take] at hj
  have hjl : j < r.length := by omega
  rw [List.getElem_take] at e
  have h1 := hr.at' _ (List.getElem_mem hjl)
  have h2 := hr.at' _ (List.getElem_mem hk)
  have hnd := hr.nd
  have := (List.getElem_inj (h₀ := by simpa using hjl) (h₁ := by simpa using hk) hnd).1 (by simp only [List.getElem_map]; omega)
  omega
end Go.Proofs
namespace Go.Proofs
open Go Go.Own
set_option maxRecDepth 100000
set_option linter.unusedVariables false
structure RowsOk (rows : List Rw) : Prop where
  n : rows.length ≤ 400
  rows : ∀ r ∈ rows, RowOk r
structure RowsB (rows : List Rw) : Prop where
  n : rows.length ≤ 1000
  r : ∀ r ∈ rows, r.length ≤ 1000
theorem seek (rows : List Rw) (hB : RowsB rows) (i : Nat) (r : Rw) (hr : rows[i]? = some r) (hro : RowOk r) (c : Comb) (hc : c.Chk.length ≤ 900000) (h0 : c.Base[i]? = some 0) (fits : List Int → Rw → Int → Option Bool)
    (hf : ∀ b : Nat, b ≤ 1000000 → Tot (fits c.Chk r b) fun x => (x = true ↔ Fit c.Chk r b)) :
    Tot (loopM (R := List Int) (fun (s19 : List Int) =>
(idx rows (i : Int)).bind fun x22 =>
(idx s19 (i : Int)).bind fun x23 =>
(fits c.Chk x22 x23).bind fun x24 =>
(bif !x24 then
(idx s19 (i : Int)).bind fun x26 =>
some (.inl (s19.set (i : Int).toNat (w64 (x26 + 1))))
else
some (.inr s19))) c.Base) fun B => ∃ b : Nat, B = c.Base.set i (b : Int) ∧ Fit c.Chk r b ∧ (∀ b', b' < b → ¬ Fit c.Chk r b') ∧ b ≤ c.Chk.length := by
  have hil : i < c.Base.length := (List.getElem?_eq_some_iff.1 h0).1
  have hidx : idx rows (i : Int) = some r := by simp [idx, hr]
  have hself : c.Base = c.Base.set i 0 := by
    apply List.ext_getElem?
    intro k
    rw [List.getElem?_set]
    by_cases e : i = k
    · subst e; rw [h0]; simp [hil]
    · simp [e]
  have key : Tot (loopM (R := List Int) (fun (s19 : List Int) =>
(idx rows (i : Int)).bind fun x22 =>
(idx s19 (i : Int)).bind fun x23 =>
(fits c.Chk x22 x23).bind fun x24 =>
(bif !x24 then
(idx s19 (i : Int)).bind fun x26 =>
some (.inl (s19.set (i : Int).toNat (w64 (x26 + 1))))
else
some (.inr s19))) (c.Base.set i 0)) fun B => ∃ b : Nat, B = c.Base.set i (b : Int) ∧ Fit c.Chk r b ∧ (∀ b', b' < b → ¬ Fit c.Chk r b') ∧ b ≤ c.Chk.length := by
    refine Tot.loop (fun s => ∃ b : Nat, s = c.Base.set i (b : Int) ∧ (∀ b', b' < b → ¬ Fit c.Chk r b') ∧ b ≤ c.Chk.length) (fun s => c.Chk.length + 1 - (s.getD i 0).toNat) ⟨0, rfl, fun b' h => absurd h (Nat.not_lt_zero _), Nat.zero_le _⟩ (by show c.Chk.length + 1 - _ < 1000000000000000000; omega) fun s hs => ?_
    obtain ⟨b, rfl, hl, hb⟩ := hs
    have hsi : idx (c.Base.set i (b : Int)) (i : Int) = some (b : Int) := by
      simp [idx, hil]
    rw [hidx, hsi]
    refine Tot.sm (Tot.sm (.by' (hf b (by omega)) fun x hx => ?_))
    refine Tot.cd (fun h => Tot.sm (.so ⟨⟨b + 1, ?_, fun b' hb' => ?_, ?_⟩, ?_⟩)) (fun h => .so ⟨b, rfl, hx.1 (by simpa using h), hl, hb⟩)
    · have hw : w64 ((b : Int) + 1) = ((b + 1 : Nat) : Int) := by rw [w64_eq]; omega
      rw [hw]
      show (c.Base.set i (b : Int)).set i _ = _
      rw [List.set_set]
    · by_cases e : b' = b
      · subst e
        intro hfit
        rw [hx.2 hfit] at h; cases h
      · exact hl b' (by omega)
    · have : ¬ c.Chk.length ≤ b := fun h' => by
        rw [hx.2 (Fit.far h')] at h; cases h
      omega
    · have hw : w64 ((b : Int) + 1) = ((b + 1 : Nat) : Int) := by rw [w64_eq]; omega
      rw [hw]
      show c.Chk.length + 1 - ((((c.Base.set i (b : Int)).set i ((b + 1 : Nat) : Int)).getD i 0).toNat) < c.Chk.length + 1 - ((c.Base.set i (b : Int)).getD i 0).toNat
      rw [List.set_set]
      have g : ∀ x : Int, (c.Base.set i x).getD i 0 = x := fun x => by simp [List.getD_eq_getElem?_getD, hil]
      rw [g, g]
      have : ¬ c.Chk.length ≤ b := fun h' => by
        rw [hx.2 (Fit.far h')] at h; cases h
      omega
  rw [← hself] at key
  exact key
theorem putl (r : Rw) (hro : RowOk r) (hrl : r.length ≤ 1000) (i b : Nat) (hi : i ≤ 100000) (c : Comb) (hcl : c.Val.length = c.Chk.length) (hc : c.Chk.length ≤ 900000) (hb : b ≤ c.Chk.length)
    (f : List Int × List Int × Int → Option ((List Int × List Int × Int) ⊕ (List Int × List Int)))
    (hf : ∀ (v ch : List Int) (k : Nat) (hk : k < r.length), f (v, ch, (k : Int)) = (loopM (R := List Int × List Int) (fun (s : List Int × List Int) =>
(bif decide ((s.2.length : Int) ≤ w64 ((b : Int) + (r[k]).At)) then
(appO s.2 [0]).bind fun x38 =>
(appO s.1 [0]).bind fun x39 =>
some (.inl (s.1 ++ [0], s.2 ++ [0]))
else
some (.inr (s.1, s.2)))) (v, ch)).bind fun x35 =>
(idx x35.2 (w64 ((b : Int) + (r[k]).At))).bind fun x40 =>
(idx x35.1 (w64 ((b : Int) + (r[k]).At))).bind fun x41 =>
some (.inl (x35.1.set (w64 ((b : Int) + (r[k]).At)).toNat (r[k]).Val, x35.2.set (w64 ((b : Int) + (r[k]).At)).toNat (w64 ((i : Int) + 1)), w64 ((k : Int) + 1))))
    (he : ∀ (v ch : List Int) (k : Int), ¬ k < r.length → f (v, ch, k) = some (.inr (v, ch))) :
    Tot (loopM f (c.Val, c.Chk, 0)) fun x => Put c r i b x.1 x.2 ∧ x.2.length ≤ c.Chk.length + 1000 := by
  refine Tot.count (fun s => s.2.2) r.length (fun s => ∃ k : Nat, k ≤ r.length ∧ s.2.2 = (k : Int) ∧ Put c (r.take k) i b s.1 s.2.1) ⟨0, Nat.zero_le _, rfl, Put.nil c i b hcl⟩ (by show (r.length : Int) - 0 < _; omega) fun s hs => ?_
  obtain ⟨v, ch, k'⟩ := s
  obtain ⟨k, hk, rfl, hP⟩ := hs
  simp only at hP ⊢
  by_cases hlt : k < r.length
  · rw [hf v ch k hlt]
    have hp := hro.at' _ (List.getElem_mem hlt)
    have hK : w64 ((b : Int) + (r[k]).At) = ((b + (r[k]).At.toNat : Nat) : Int) := by rw [w64_eq]; omega
    have hchl : ch.length ≤ 1000000 := by
      rcases hP.hi with e | ⟨q, hq, e⟩
      · omega
      · have := hro.at' q (List.mem_of_mem_take hq); omega
    refine .by' (pad _ _ _ hK (by omega) v ch hP.len (by omega)) fun x hx => ?_
    obtain ⟨h1, h2, h3, h4⟩ := hx
    rw [hK]
    have hlt2 : b + (r[k]).At.toNat < x.2.length := by omega
    have hlt1 : b + (r[k]).At.toNat < x.1.length := by omega
    rw [idx_nat hlt2, idx_nat hlt1]
    have hwi : w64 ((i : Int) + 1) = (i : Int) + 1 := by rw [w64_eq]; omega
    have hwk : w64 ((k : Int) + 1) = ((k + 1 : Nat) : Int) := by rw [w64_eq]; omega
    rw [hwi, hwk]
    refine Tot.sm (Tot.sm (.so ⟨⟨k + 1, by omega, rfl, ?_⟩, ?_, ?_⟩))
    · rw [List.take_add_one, List.getElem?_eq_getElem hlt]
      exact hP.more (set_nd hro hlt) h1 h2 h3 h4
    · show (k : Int) < ((k + 1 : Nat) : Int); omega
    · show ((k + 1 : Nat) : Int) ≤ _; omega
  · rw [he v ch k (by omega)]
    have : k = r.length := by omega
    subst this
    rw [List.take_length] at hP
    refine .so ⟨hP, ?_⟩
    show ch.length ≤ c.Chk.length + 1000
    rcases hP.hi with e | ⟨q, hq, e⟩
    · omega
    · have := hro.at' q hq; omega
end Go.Proofs
namespace Go.Proofs
open Go Go.Own
set_option maxRecDepth 100000
set_option linter.unusedVariables false
theorem RowOk.snoc {r : Rw} {p : Pair} (h : RowOk r) (hp : 0 ≤ p.At ∧ p.At ≤ 999) (hn : p.At ∉ r.map (·.At)) : RowOk (r ++ [p]) := by
  refine ⟨fun q hq => ?_, ?_⟩
  · rcases List.mem_append.1 hq with hq | hq
    · exact h.at' q hq
    · rw [List.mem_singleton.1 hq]; exact hp
  · rw [List.map_append, List.nodup_append]
    refine ⟨h.nd, by simp, fun a ha b hb e => ?_⟩
    have hb : b ∈ [p.At] := hb
    rw [List.mem_singleton.1 hb] at e
    exact hn (e ▸ ha)
theorem RowOk.nil : RowOk [] := ⟨fun _ h => absurd h (by simp), by simp⟩
theorem RowOk.bad {r : Rw} {k : Nat} (hk : k < r.length) (h : ¬ (0 ≤ (r[k]).At ∧ (r[k]).At ≤ 999) ∨ (r[k]).At ∈ (r.take k).map (·.At)) : ¬ RowOk r := by
  intro hr
  rcases h with h | h
  · exact h (hr.at' _ (List.getElem_mem hk))
  · obtain ⟨q, hq, e⟩ := List.mem_map.1 h
    exact set_nd hr hk q hq (by have e : q.At = (r[k]).At := e; rw [e])
theorem rows_bad {rows : List Rw} {r : Rw} (hr : r ∈ rows) (h : ¬ RowOk r) : ¬ RowsOk rows := fun hh => h (hh.rows r hr)
theorem take_snoc {r : Rw} {k : Nat} (h : k < r.length) : r.take (k + 1) = r.take k ++ [r[k]] := by
  rw [List.take_add_one, List.getElem?_eq_getElem h]; rfl
theorem c65 (rows : List Rw) (hB : RowsB rows) : Tot (pf65 rows) fun c => (c = true ↔ RowsOk rows) := by
  unfold pf65
  have hn := hB.n
  refine Tot.cp (fun h => .so ⟨fun h => (by cases h), fun hh => by have := hh.n; omega⟩) (fun h400 => ?_)
  refine Tot.by' (Tot.scan rows RowOk (fun x : Bool => x = false ∧ ¬ RowsOk rows) (by omega) (fun s r h0 h1 hi hm => ?_) (fun s hs => by simp [hs])) fun x hx => ?_
  · refine Tot.cp (fun _ => ?_) (fun h => absurd h1 h)
    rw [hi]
    have hrl := hB.r r hm
    refine Tot.sm (.by' (Ξ := LR (fun _ => RowOk r) (fun x : Bool => x = false ∧ ¬ RowsOk rows)) ?_ fun x hx => ?_)
    · refine Tot.count (fun s => s.2) r.length (fun s => ∃ k : Nat, k ≤ r.length ∧ s.2 = (k : Int) ∧ s.1.length = 1000 ∧ RowOk (r.take k) ∧ ∀ j, j < 1000 → (s.1.getD j false = true ↔ (j : Int) ∈ (r.take k).map (·.At))) ⟨0, Nat.zero_le _, rfl, List.length_replicate .., RowOk.nil, fun j hj => by
      show ((List.replicate 1000 false).getD j false = true ↔ _)
      rw [List.getD_eq_getElem?_getD, List.getElem?_replicate, if_pos hj]
      simp⟩ (by show (r.length : Int) - 0 < _; omega) fun s hs => ?_
      obtain ⟨met, k'⟩ := s
      obtain ⟨k, hk, rfl, hml, hok, hmet⟩ := hs
      simp only at hml hmet ⊢
      refine Tot.cp (fun hlt => ?_) (fun hge => .so ?_)
      · have hlt : k < r.length := by omega
        rw [idx_nat hlt]
        have hw : w64 ((k : Int) + 1) = ((k + 1 : Nat) : Int) := by rw [w64_eq]; omega
        rw [hw]
        have hA : 0 ≤ (r[k]).At ∧ (r[k]).At ≤ 999 → idxA 1000 met (r[k]).At = some (met.getD (r[k]).At.toNat false) := by
          intro h
          unfold idxA
          rw [if_pos (by omega)]
          have : (r[k]).At.toNat < met.length := by omega
          simp [idx, h.1, this, List.getD_eq_getElem?_getD]
        refine Tot.sm (.by' (Ξ := fun c => (c = true ↔ (¬ (0 ≤ (r[k]).At ∧ (r[k]).At ≤ 999) ∨ (r[k]).At ∈ (r.take k).map (·.At)))) ?_ fun c hc => Tot.cd (fun h => .so ⟨rfl, rows_bad hm (RowOk.bad hlt (hc.1 h))⟩) (fun h => ?_))
        · refine Tot.cp (fun h => .so ⟨fun _ => .inl (by omega), fun _ => rfl⟩) (fun h => Tot.cp (fun h' => .so ⟨fun _ => .inl (by omega), fun _ => rfl⟩) (fun h' => ?_))
          have hp : 0 ≤ (r[k]).At ∧ (r[k]).At ≤ 999 := by omega
          rw [hA hp]
          refine Tot.sm (.so ?_)
          rw [hmet _ (by omega)]
          have e : (((r[k]).At.toNat : Nat) : Int) = (r[k]).At := by omega
          rw [e]
          exact ⟨fun h => .inr h, fun h => h.resolve_left fun hn => hn hp⟩
        · have hgood : (0 ≤ (r[k]).At ∧ (r[k]).At ≤ 999) ∧ (r[k]).At ∉ (r.take k).map (·.At) := by
            refine ⟨Classical.byContradiction fun hn => ?_, fun hn => ?_⟩
            · rw [hc.2 (.inl hn)] at h; cases h
            · rw [hc.2 (.inr hn)] at h; cases h
          obtain ⟨hp, hn⟩ := hgood
          rw [hA hp]
          refine Tot.sm (.so ⟨⟨k + 1, by omega, rfl, by show (met.set _ _).length = _; simp [hml], ?_, fun j hj => ?_⟩, ?_, ?_⟩)
          · rw [take_snoc hlt]; exact hok.snoc hp hn
          · show ((met.set (r[k]).At.toNat true).getD j false = true ↔ _)
            rw [take_snoc hlt, List.map_append, List.mem_append, List.getD_eq_getElem?_getD, List.getElem?_set]
            by_cases e : (r[k]).At.toNat = j
            · subst e
              have hl : (r[k]).At.toNat < met.length := by omega
              have e2 : (((r[k]).At.toNat : Nat) : Int) = (r[k]).At := by omega
              rw [if_pos rfl, if_pos hl, e2]
              simp
            · rw [if_neg e, ← List.getD_eq_getElem?_getD, hmet j hj]
              constructor
              · exact .inl
              · rintro (h | h)
                · exact h
                · have h : (j : Int) ∈ [(r[k]).At] := h
                  have := List.mem_singleton.1 h
                  omega
          · show (k : Int) < ((k + 1 : Nat) : Int); omega
          · show ((k + 1 : Nat) : Int) ≤ _; omega
      · have : k = r.length := by omega
        subst this
        rw [List.take_length] at hok
        exact hok
    · rcases x with _ | x
      · exact .so ⟨by rw [w64_eq]; omega, hx⟩
      · exact .so hx
  · rcases x with _ | x
    · have hx : ∀ r ∈ rows, RowOk r := hx
      exact .so ⟨fun _ => ⟨by omega, hx⟩, fun _ => rfl⟩
    · obtain ⟨rfl, hb⟩ : x = false ∧ ¬ RowsOk rows := hx
      exact .so ⟨fun h => (by cases h), fun h => absurd h hb⟩
end Go.Proofs
namespace Go.Proofs
open Go Go.Own Go.Sort
set_option maxRecDepth 100000
set_option linter.unusedVariables false
def lenI (rows : List Rw) (a : Int) : Nat := ((idx rows a).map List.length).getD 0
def ltK (rows : List Rw) (a b : Int) : Bool := decide (lenI rows b < lenI rows a ∨ (lenI rows a = lenI rows b ∧ a < b))
theorem ltK_iff {rows : List Rw} {a b : Int} : ltK rows a b = true ↔ (lenI rows b < lenI rows a ∨ (lenI rows a = lenI rows b ∧ a < b)) := by simp [ltK]
theorem ltK_not {rows : List Rw} {a b : Int} : ltK rows a b = false ↔ ¬ (lenI rows b < lenI rows a ∨ (lenI rows a = lenI rows b ∧ a < b)) := by simp [ltK]
theorem ltK_swo (rows : List Rw) : SWO (ltK rows) where
  irrefl x := by rw [ltK_not]; omega
  trans x y z h1 h2 := by rw [ltK_iff] at *; omega
  ntrans x y z h1 h2 := by rw [ltK_not] at *; omega
theorem ltK_tot {rows : List Rw} {a b : Int} (h1 : ltK rows a b = false) (h2 : ltK rows b a = false) : a = b := by
  rw [ltK_not] at *; omega
theorem c66' (rows : List Rw) (a b : Int) (ha : 0 ≤ a ∧ a < rows.length) (hb : 0 ≤ b ∧ b < rows.length) : ∃ v, pf66 a b rows = some v ∧ (v < 0 ↔ ltK rows a b = true) := by
  obtain ⟨v, hv, h⟩ := c66 rows a b ha hb
  refine ⟨v, hv, h.trans ?_⟩
  obtain ⟨x, hx, _⟩ := idx_some' ha.1 ha.2
  obtain ⟨y, hy, _⟩ := idx_some' hb.1 hb.2
  rw [ltK_iff]
  unfold Bef lenI
  rw [hx, hy]
  constructor
  · rintro ⟨x', y', e1, e2, h⟩
    cases e1; cases e2; exact h
  · intro h
    exact ⟨x, y, rfl, rfl, h⟩
theorem ins_congr {α : Type} {lt lt' : α → α → Bool} (x : α) : ∀ l : List α, (∀ y ∈ l, lt y x = lt' y x) → ins lt x l = ins lt' x l
  | [], _ => rfl
  | y :: l, h => by
    simp only [ins, h y (by simp)]
    rw [ins_congr x l fun z hz => h z (by simp [hz])]
theorem isort_congr {α : Type} {lt lt' : α → α → Bool} : ∀ l : List α, (∀ a ∈ l, ∀ b ∈ l, lt a b = lt' a b) → isort lt l = isort lt' l
  | [], _ => rfl
  | x :: l, h => by
    simp only [isort]
    rw [isort_congr l fun a ha b hb => h a (by simp [ha]) b (by simp [hb])]
    exact ins_congr x _ fun y hy => h y (by simp [(isort_perm lt' l).mem_iff.1 hy]) x (by simp)
structure Ordr (rows : List Rw) (o : List Nat) : Prop where
  mem : ∀ i, i ∈ o ↔ ∃ r, rows[i]? = some r ∧ r ≠ []
  nd : o.Nodup
  pw : o.Pairwise fun (a b : Nat) => ltK rows (b : Int) (a : Int) = false
theorem Ordr.uniq {rows : List Rw} {o o' : List Nat} (h : Ordr rows o) (h' : Ordr rows o') : o = o' :=
  List.Perm.eq_of_pairwise (le := fun (a b : Nat) => ltK rows (b : Int) (a : Int) = false) (fun a b _ _ h1 h2 => by have := ltK_tot h2 h1; omega) h.pw h'.pw ((List.perm_ext_iff_of_nodup h.nd h'.nd).2 fun i => (h.mem i).trans (h'.mem i).symm)
theorem Ordr.lt {rows : List Rw} {o : List Nat} (h : Ordr rows o) {i : Nat} (hi : i ∈ o) : i < rows.length := by
  obtain ⟨r, hr, _⟩ := (h.mem i).1 hi
  exact (List.getElem?_eq_some_iff.1 hr).1
theorem Ordr.len {rows : List Rw} {o : List Nat} (h : Ordr rows o) : o.length ≤ rows.length := by
  have : ∀ (l m : List Nat), l.Nodup → (∀ x ∈ l, x ∈ m) → l.length ≤ m.length := by
    intro l
    induction l with
    | nil => intro m _ _; exact Nat.zero_le _
    | cons x l ih =>
      intro m hd hm
      have hx := hm x (by simp)
      have hd' := List.nodup_cons.1 hd
      have := ih (m.erase x) hd'.2 fun y hy => (List.mem_erase_of_ne (fun e => hd'.1 (by rw [← e]; exact hy))).2 (hm y (by simp [hy]))
      have hl := List.length_erase_of_mem hx
      have hp := List.length_pos_of_mem hx
      simp only [List.length_cons]
      omega
  have := this o (List.range rows.length) h.nd fun x hx => by simpa using h.lt hx
  simpa using this
theorem sortK (rows : List Rw) (l : List Int) (hl : ∀ a ∈ l, 0 ≤ a ∧ a < rows.length) (hn : l.length ≤ 100000) : sortO (fun a b => pf66 a b rows) l = some (isort (ltK rows) l) := by
  have hlt : ∀ a ∈ l, ∀ b ∈ l, ltO (fun a b => pf66 a b rows) a b = ltK rows a b := by
    intro a ha b hb
    obtain ⟨v, hv, h⟩ := c66' rows a b (hl a ha) (hl b hb)
    unfold ltO
    simp only [hv, Option.getD_some]
    cases hk : ltK rows a b with
    | true => exact decide_eq_true (h.2 hk)
    | false => exact decide_eq_false fun hh => by rw [h.1 hh] at hk; cases hk
  unfold sortO
  rw [if_pos]
  · rw [isort_congr l hlt]
  · simp only [Bool.and_eq_true, decide_eq_true_eq, List.all_eq_true]
    refine ⟨⟨fun a ha b hb => ?_, ?_⟩, by omega⟩
    · obtain ⟨v, hv, _⟩ := c66' rows a b (hl a ha) (hl b hb)
      rw [hv]; rfl
    · unfold ordB
      simp only [List.all_eq_true, Bool.and_eq_true, Bool.or_eq_true, Bool.not_eq_true', decide_eq_true_eq]
      have hS := ltK_swo rows
      intro a ha
      refine ⟨by rw [hlt a ha a ha]; exact hS.irrefl a, fun b hb => ⟨?_, fun c hc => ⟨?_, ?_⟩⟩⟩
      · rw [hlt a ha b hb, hlt b hb a ha]
        cases h1 : ltK rows a b with
        | true => exact .inl (.inl rfl)
        | false =>
          cases h2 : ltK rows b a with
          | true => exact .inl (.inr rfl)
          | false => exact .inr (ltK_tot h1 h2)
      · rw [hlt a ha b hb, hlt b hb c hc, hlt a ha c hc]
        cases h1 : ltK rows a b with
        | false => exact .inl rfl
        | true =>
          cases h2 : ltK rows b c with
          | false => exact .inl rfl
          | true => exact .inr (hS.trans _ _ _ h1 h2)
      · rw [hlt a ha b hb, hlt b hb c hc, hlt a ha c hc]
        cases h1 : ltK rows a b with
        | true => exact .inl (.inl rfl)
        | false =>
          cases h2 : ltK rows b c with
          | true => exact .inl (.inr rfl)
          | false => exact .inr (hS.ntrans _ _ _ h1 h2)
theorem c41 (rows : List Rw) (hB : RowsB rows) : Tot (pf41 rows) fun c => (¬ RowsOk rows → c = ⟨[], [], []⟩) ∧ (RowsOk rows → c.Chk.length ≤ 900000 ∧ ∃ o, Ordr rows o ∧ Lst rows o.reverse c) := by
  unfold pf41
  refine .by' (c65 rows hB) fun x1 h1 => Tot.cd (fun h => .so ⟨fun _ => rfl, fun hok => by rw [h1.2 hok] at h; cases h⟩) (fun h => ?_)
  have hok : RowsOk rows := h1.1 (by simpa using h)
  refine Tot.use (Φ := fun c => (¬ RowsOk rows → c = ⟨[], [], []⟩) ∧ (RowsOk rows → c.Chk.length ≤ 900000 ∧ ∃ o, Ordr rows o ∧ Lst rows o.reverse c)) (Ψ := fun c => c.Chk.length ≤ 900000 ∧ ∃ o, Ordr rows o ∧ Lst rows o.reverse c) ?_ fun c hc => ⟨fun hn => absurd hok hn, fun _ => hc⟩
  have hn := hok.n
  refine .by' (Ξ := fun l => l = List.replicate rows.length 0) (Tot.mk (by simp [lim]; omega) (by simp)) fun x3 h3 => ?_
  subst h3
  refine .by' (Ξ := fun l => ∃ o : List Nat, l = o.map (fun (j : Nat) => (j : Int)) ∧ o.Nodup ∧ o.length ≤ 400 ∧ ∀ j, j ∈ o ↔ ∃ r, rows[j]? = some r ∧ r ≠ []) ?_ fun x5 h5 => ?_
  · refine Tot.count (fun s => s.2) rows.length (fun s => ∃ k : Nat, k ≤ rows.length ∧ s.2 = (k : Int) ∧ ∃ o : List Nat, s.1 = o.map (fun (j : Nat) => (j : Int)) ∧ o.Nodup ∧ o.length ≤ k ∧ ∀ j, j ∈ o ↔ j < k ∧ ∃ r, rows[j]? = some r ∧ r ≠ []) ⟨0, Nat.zero_le _, rfl, [], rfl, List.nodup_nil, Nat.le_refl 0, fun j => by simp⟩ (by show (rows.length : Int) - 0 < _; omega) fun s hs => ?_
    obtain ⟨l, k'⟩ := s
    obtain ⟨k, hk, rfl, o, rfl, hnd, hol, hm⟩ := hs
    simp only
    have hw : w64 ((k : Int) + 1) = ((k + 1 : Nat) : Int) := by rw [w64_eq]; omega
    rw [hw]
    refine Tot.cp (fun hlt => ?_) (fun hge => .so ⟨o, rfl, hnd, by omega, fun j => ?_⟩)
    · have hlt : k < rows.length := by omega
      rw [idx_nat hlt]
      have hrk : rows[k]? = some rows[k] := List.getElem?_eq_getElem hlt
      have hko : k ∉ o := fun h => by have := ((hm k).1 h).1; omega
      refine .by' (Ξ := fun l => ∃ o' : List Nat, l = o'.map (fun (j : Nat) => (j : Int)) ∧ o'.Nodup ∧ o'.length ≤ k + 1 ∧ ∀ j, j ∈ o' ↔ j < k + 1 ∧ ∃ r, rows[j]? = some r ∧ r ≠ []) ?_ fun l hl => .so ⟨⟨k + 1, by omega, rfl, hl⟩, ?_, ?_⟩
      · refine Tot.sm (.by' (Ξ := fun l => ∃ o' : List Nat, l = o'.map (fun (j : Nat) => (j : Int)) ∧ o'.Nodup ∧ o'.length ≤ k + 1 ∧ ∀ j, j ∈ o' ↔ j < k + 1 ∧ ∃ r, rows[j]? = some r ∧ r ≠ []) ?_ fun l hl => .so hl)
        refine Tot.cp (fun hp => ?_) (fun hp => .so ⟨o, rfl, hnd, by omega, fun j => ?_⟩)
        · refine .by' (Ξ := fun _ => True) (Tot.ap (by simp [lim]; omega) trivial) fun _ _ => .so ⟨o ++ [k], by simp, ?_, by simp; omega, fun j => ?_⟩
          · rw [List.nodup_append]
            exact ⟨hnd, by simp, fun a ha b hb e => hko (by rw [← List.mem_singleton.1 hb, ← e]; exact ha)⟩
          · rw [List.mem_append, hm j, List.mem_singleton]
            constructor
            · rintro (⟨h1, h2⟩ | rfl)
              · exact ⟨by omega, h2⟩
              · exact ⟨by omega, _, hrk, fun e => by rw [e] at hp; simp at hp⟩
            · rintro ⟨h1, h2⟩
              by_cases e : j = k
              · exact .inr e
              · exact .inl ⟨by omega, h2⟩
        · rw [hm j]
          constructor
          · rintro ⟨h1, h2⟩
            exact ⟨by omega, h2⟩
          · rintro ⟨h1, r, h2, h3⟩
            refine ⟨?_, r, h2, h3⟩
            have : j ≠ k := by
              rintro rfl
              rw [hrk] at h2; cases h2
              have : (rows[j]).length ≠ 0 := fun e => h3 (List.eq_nil_of_length_eq_zero e)
              omega
            omega
      · show (k : Int) < ((k + 1 : Nat) : Int); omega
      · show ((k + 1 : Nat) : Int) ≤ _; omega
    · have : k = rows.length := by omega
      subst this
      rw [hm j]
      constructor
      · exact fun h => h.2
      · rintro ⟨r, hr, h⟩
        exact ⟨(List.getElem?_eq_some_iff.1 hr).1, r, hr, h⟩
  obtain ⟨o1, rfl, hnd1, hol1, hm1⟩ := h5
  have hin : ∀ a ∈ o1.map (fun (j : Nat) => (j : Int)), 0 ≤ a ∧ a < rows.length := by
    intro a ha
    obtain ⟨j, hj, rfl⟩ := List.mem_map.1 ha
    obtain ⟨r, hr, _⟩ := (hm1 j).1 hj
    have := (List.getElem?_eq_some_iff.1 hr).1
    omega
  rw [sortK rows _ hin (by simp; omega)]
  refine Tot.sm ?_
  -- the order, as places
  obtain ⟨o, ho, hOr⟩ : ∃ o : List Nat, isort (ltK rows) (o1.map fun (j : Nat) => (j : Int)) = o.map (fun (j : Nat) => (j : Int)) ∧ Ordr rows o := by
    refine ⟨isort (fun a b : Nat => ltK rows (a : Int) (b : Int)) o1, ?_, ?_⟩
    · exact (isort_map (lt := fun a b : Nat => ltK rows (a : Int) (b : Int)) (lt' := ltK rows) (f := fun (j : Nat) => (j : Int)) (fun a b => rfl) o1).symm
    · have hS := ltK_swo rows
      have hp := isort_perm (fun a b : Nat => ltK rows (a : Int) (b : Int)) o1
      refine ⟨fun i => (hp.mem_iff).trans (hm1 i), hp.nodup_iff.2 hnd1, ?_⟩
      have hs := isort_sorted (lt := fun a b : Nat => ltK rows (a : Int) (b : Int)) ⟨fun x => hS.irrefl _, fun x y z => hS.trans _ _ _, fun x y z => hS.ntrans _ _ _⟩ o1
      exact hs.imp fun h => by simpa using h
  rw [ho]
  have hol := hOr.len
  refine .by' (Ξ := fun c => c.Chk.length ≤ 900000 ∧ ∃ o, Ordr rows o ∧ Lst rows o.reverse c) ?_ fun c hc => .so hc
  refine Tot.count (fun s => s.2) o.length (fun s => ∃ k : Nat, k ≤ o.length ∧ s.2 = (k : Int) ∧ s.1.Chk.length ≤ 1000 * k ∧ Lst rows (o.take k).reverse s.1) ⟨0, Nat.zero_le _, rfl, Nat.le_refl 0, .nil⟩ (by show (o.length : Int) - 0 < _; omega) fun s hs => ?_
  obtain ⟨c, k'⟩ := s
  obtain ⟨k, hk, rfl, hcl, hL⟩ := hs
  simp only at hcl hL ⊢
  have hw : w64 ((k : Int) + 1) = ((k + 1 : Nat) : Int) := by rw [w64_eq]; omega
  rw [hw]
  refine Tot.cp (fun hlt => ?_) (fun hge => .so ⟨by show c.Chk.length ≤ 900000; omega, o, hOr, ?_⟩)
  · rw [List.length_map] at hlt
    have hlt : k < o.length := by omega
    have hik : idx (o.map fun (j : Nat) => (j : Int)) (k : Int) = some ((o[k] : Nat) : Int) := by
      rw [idx_nat (by simpa using hlt)]; simp
    rw [hik]
    generalize hi : o[k] = i
    have him : i ∈ o := by rw [← hi]; exact List.getElem_mem hlt
    obtain ⟨r, hr, hrne⟩ := (hOr.mem i).1 him
    have hilt := hOr.lt him
    have hrm : r ∈ rows := List.mem_of_getElem? hr
    have hro := hok.rows r hrm
    have hrl := hB.r r hrm
    have hnot : i ∉ (o.take k).reverse := by
      rw [List.mem_reverse]
      intro h
      obtain ⟨j, hj, e⟩ := List.mem_iff_getElem.1 h
      rw [List.length_take] at hj
      rw [List.getElem_take] at e
      have := (List.getElem_inj (i := j) (j := k) (h₀ := by omega) (h₁ := hlt) hOr.nd).1 (by rw [e, hi])
      omega
    have hlen := hL.len
    refine Tot.sm (.by' (seek rows hB i r hr hro c (by omega) (hL.rest i hilt hnot) pf68 fun b hb => c68 c.Chk r b hro.at' (by omega) (by omega) (by omega)) fun B hBs => ?_)
    obtain ⟨b, rfl, hfit, hleast, hbc⟩ := hBs
    have hidx : idx rows (i : Int) = some r := by simp [idx, hr]
    rw [hidx]
    refine Tot.sm (.by' (putl r hro hrl i b (by omega) c hlen.1 (by omega) hbc _ (fun v ch k hk => ?_) (fun v ch k hk => ?_)) fun x hx => ?_)
    · have hbi : idx (c.Base.set i (b : Int)) (i : Int) = some (b : Int) := by
        have : i < c.Base.length := by omega
        simp [idx, this]
      have hd : decide ((k : Int) < (r.length : Int)) = true := decide_eq_true (by omega)
      simp only [hd, cond_true, idx_nat hk, hbi, Option.bind_some]
    · have hd : decide ((k : Int) < (r.length : Int)) = false := decide_eq_false hk
      simp only [hd, cond_false]
    · obtain ⟨hP, hl⟩ := hx
      refine .so ⟨⟨k + 1, by omega, rfl, ?_, ?_⟩, ?_, ?_⟩
      · show x.2.length ≤ 1000 * (k + 1); omega
      · rw [List.take_add_one, List.getElem?_eq_getElem hlt, hi]
        show Lst rows ((o.take k) ++ [i]).reverse _
        rw [List.reverse_append]
        exact .cons hr hnot hL ⟨hfit, hleast, rfl, hP⟩
      · show (k : Int) < ((k + 1 : Nat) : Int); omega
      · show ((k + 1 : Nat) : Int) ≤ _; omega
  · rw [List.length_map] at hge
    have : k = o.length := by omega
    subst this
    rw [List.take_length] at hL
    exact hL
end Go.Proofs
namespace Go.Proofs
open Go Go.Own Go.Sort
set_option maxRecDepth 100000
set_option linter.unusedVariables false
def Elig (rows : List Rw) (o : List Nat) (j : Nat) : Prop := j ∉ o ∧ ∃ r, rows[j]? = some r ∧ r ≠ []
theorem lenI_nat {rows : List Rw} {j : Nat} {r : Rw} (h : rows[j]? = some r) : lenI rows (j : Int) = r.length := by
  simp [lenI, idx, h]
structure Pre (rows : List Rw) (o : List Nat) (laid : List Bool) (c : Comb) : Prop where
  lst : Lst rows o.reverse c
  nd : o.Nodup
  ne : ∀ i ∈ o, ∃ r, rows[i]? = some r ∧ r ≠ []
  ll : laid.length = rows.length
  ld : ∀ j, j < rows.length → (laid.getD j false = true ↔ j ∈ o)
  pw : o.Pairwise fun (a b : Nat) => ltK rows (b : Int) (a : Int) = false
  bf : ∀ i ∈ o, ∀ j, Elig rows o j → ltK rows (j : Int) (i : Int) = false
  cl : c.Chk.length ≤ 1000 * o.length
end Go.Proofs
namespace Go.Proofs
open Go Go.Own Go.Sort
set_option maxRecDepth 100000
set_option linter.unusedVariables false
theorem c30 (a n : Int) (h : 0 < n) (hn : n ≤ 9223372036854775807) : Tot (pf30 a n) fun r => 0 ≤ r ∧ r < n := by
  unfold pf30
  have h1 : -n < a.tmod n := by
    by_cases ha : 0 ≤ a
    · have := Int.tmod_nonneg n ha; omega
    · have h2 : (-a).tmod n < n := Int.tmod_lt_of_pos _ h
      rw [Int.neg_tmod] at h2
      omega
  have h2 : a.tmod n < n := Int.tmod_lt_of_pos a h
  refine .by' (Ξ := fun x => x = a.tmod n) (Tot.rem (by omega) rfl) fun x hx => ?_
  subst hx
  refine Tot.by' (Ξ := fun r => 0 ≤ r ∧ r < n) (Tot.cp (fun h3 => .so ?_) (fun h3 => .so (by omega))) fun r hr => .so hr
  rw [w64_eq]; omega
structure Good (r : Rw) : Prop where
  l : r.length ≤ 12
  ok : RowOk r
theorem c38 (a0 : List (List Int)) (a1 : Int) : Tot (pf38 a0 a1) fun rows => rows.length ≤ 14 ∧ ∀ r ∈ rows, Good r := by
  unfold pf38
  refine .by' (c30 a1 60 (by omega) (by omega)) fun m hm => .by' (Ξ := fun rows => rows.length ≤ 14 ∧ ∀ r ∈ rows, Good r) ?_ fun r hr => .so hr
  refine Tot.count (fun s => s.2) 14 (fun s => 0 ≤ s.2 ∧ s.2 ≤ 14 ∧ (s.1.length : Int) = s.2 ∧ ∀ r ∈ s.1, Good r) ⟨by decide, by decide, rfl, fun _ h => absurd h (by simp)⟩ (by decide) fun s hs => ?_
  obtain ⟨rows, i⟩ := s
  obtain ⟨h0, h1, hl, hg⟩ := hs
  simp only at h0 h1 hl hg ⊢
  refine .by' (Ξ := fun c => c = true ↔ (i < a0.length ∧ i < 14)) (Tot.cp (fun h => .so ?_) (fun h => .so ?_)) fun c hc => Tot.cd (fun h => ?_) (fun h => .so ⟨by omega, hg⟩)
  · simp [h]
  · simp [h]
  obtain ⟨hi1, hi2⟩ := hc.1 h
  obtain ⟨x, hx, _⟩ := idx_some' h0 hi1
  refine .by' (Ξ := fun r => Good r) ?_ fun r hr => .by' (Ξ := fun _ => True) (Tot.ap (by simp [lim]; omega) trivial) fun _ _ => .so ⟨⟨?_, ?_, ?_, fun q hq => ?_⟩, ?_, ?_⟩
  · refine Tot.count (fun s => s.2.2) 12 (fun s => 0 ≤ s.2.2 ∧ s.2.2 ≤ 12 ∧ (s.1.length : Int) ≤ s.2.2 ∧ RowOk s.1 ∧ s.2.1 = s.1.map (·.At)) ⟨by decide, by decide, by decide, RowOk.nil, rfl⟩ (by decide) fun s hs => ?_
    obtain ⟨r, ats, j⟩ := s
    obtain ⟨g0, g1, gl, gok, ge⟩ := hs
    simp only at g0 g1 gl gok ge ⊢
    subst ge
    rw [hx]
    refine .by' (Ξ := fun c => c = true ↔ (j < x.length ∧ j < 12)) (Tot.sm (Tot.cp (fun h => .so ?_) (fun h => .so ?_))) fun c hc => Tot.cd (fun h => ?_) (fun h => .so ⟨by omega, gok⟩)
    · simp [h]
    · simp [h]
    obtain ⟨hj1, hj2⟩ := hc.1 h
    obtain ⟨y, hy, _⟩ := idx_some' g0 hj1
    have hw : w64 (1 + m) = 1 + m := by rw [w64_eq]; omega
    have hwj : w64 (j + 1) = j + 1 := by rw [w64_eq]; omega
    simp only [Option.bind_some, hy, hw, hwj]
    refine .by' (Ξ := fun z : List Pair × List Int => (z.1.length : Int) ≤ j + 1 ∧ RowOk z.1 ∧ z.2 = z.1.map (·.At)) ?_ fun z hz => .so ⟨⟨by show 0 ≤ j + 1; omega, by show j + 1 ≤ 12; omega, hz⟩, by show j < j + 1; omega, by show j + 1 ≤ 12; omega⟩
    refine .by' (c30 y (1 + m) (by omega) (by omega)) fun p hp => ?_
    refine .by' (c35 _ p (by rw [List.length_map]; omega)) fun c hc => ?_
    refine .by' (Ξ := fun z : List Pair × List Int => (z.1.length : Int) ≤ j + 1 ∧ RowOk z.1 ∧ z.2 = z.1.map (·.At)) (Tot.cd (fun h => ?_) (fun h => .so ⟨by show (r.length : Int) ≤ _; omega, gok, rfl⟩)) fun z hz => .so hz
    have hn : p ∉ r.map (·.At) := fun hh => by rw [hc.2 hh] at h; cases h
    refine .by' (Ξ := fun _ => True) (Tot.ap (by simp [lim]; omega) trivial) fun _ _ => .by' (Ξ := fun _ => True) (Tot.ap (by simp [lim]; omega) trivial) fun _ _ => .so ⟨?_, gok.snoc (p := ⟨p, y⟩) ⟨hp.1, by show p ≤ 999; omega⟩ hn, by simp⟩
    show (((r ++ [(⟨p, y⟩ : Pair)]).length : Nat) : Int) ≤ j + 1
    simp; omega
  · show 0 ≤ w64 (i + 1); rw [w64_eq]; omega
  · show w64 (i + 1) ≤ 14; rw [w64_eq]; omega
  · show (((rows ++ [r]).length : Nat) : Int) = w64 (i + 1)
    rw [w64_eq]; simp; omega
  · rcases List.mem_append.1 hq with hq | hq
    · exact hg q hq
    · rw [List.mem_singleton.1 hq]; exact hr
  · show i < w64 (i + 1); rw [w64_eq]; omega
  · show w64 (i + 1) ≤ 14; rw [w64_eq]; omega
theorem c39 (a0 : List Rw) : Tot (pf39 a0) fun rows => RowsB rows := by
  unfold pf39
  refine .by' (Ξ := fun rows => RowsB rows) ?_ fun r hr => .so hr
  refine Tot.count (fun s => s.2) 9 (fun s => 0 ≤ s.2 ∧ s.2 ≤ 9 ∧ (s.1.length : Int) = s.2 ∧ ∀ r ∈ s.1, r.length ≤ 6) ⟨by decide, by decide, rfl, fun _ h => absurd h (by simp)⟩ (by decide) fun s hs => ?_
  obtain ⟨rows, i⟩ := s
  obtain ⟨h0, h1, hl, hg⟩ := hs
  simp only at h0 h1 hl hg ⊢
  refine .by' (Ξ := fun c => c = true ↔ (i < a0.length ∧ i < 9)) (Tot.cp (fun h => .so ?_) (fun h => .so ?_)) fun c hc => Tot.cd (fun h => ?_) (fun h => .so ⟨by omega, fun r hr => by have := hg r hr; omega⟩)
  · simp [h]
  · simp [h]
  obtain ⟨hi1, hi2⟩ := hc.1 h
  obtain ⟨x, hx, _⟩ := idx_some' h0 hi1
  rw [hx]
  refine Tot.sm (.by' (Ξ := fun r : Rw => r.length ≤ 6) (Tot.cp (fun h => .by' (Ξ := fun r : Rw => r.length ≤ 6) (Tot.sub (by omega) ?_) fun r hr => .so hr) (fun h => .so (by omega))) fun r hr => .by' (Ξ := fun _ => True) (Tot.ap (by simp [lim]; omega) trivial) fun _ _ => .so ⟨⟨?_, ?_, ?_, fun q hq => ?_⟩, ?_, ?_⟩)
  · rw [List.length_take]; omega
  · show 0 ≤ w64 (i + 1); rw [w64_eq]; omega
  · show w64 (i + 1) ≤ 9; rw [w64_eq]; omega
  · show (((rows ++ [r]).length : Nat) : Int) = w64 (i + 1)
    rw [w64_eq]; simp; omega
  · rcases List.mem_append.1 hq with hq | hq
    · exact hg q hq
    · rw [List.mem_singleton.1 hq]; exact hr
  · show i < w64 (i + 1); rw [w64_eq]; omega
  · show w64 (i + 1) ≤ 9; rw [w64_eq]; omega
theorem rowsB {rows : List Rw} (h : rows.length ≤ 14 ∧ ∀ r ∈ rows, Good r) : RowsB rows := ⟨by omega, fun r hr => by have := (h.2 r hr).l; omega⟩
theorem rowsOk {rows : List Rw} (h : rows.length ≤ 14 ∧ ∀ r ∈ rows, Good r) : RowsOk rows := ⟨by omega, fun r hr => (h.2 r hr).ok⟩
theorem c40' (c : Comb) (rows : List Rw) (hB : RowsB rows) (h : (¬ RowsOk rows → c = ⟨[], [], []⟩) ∧ (RowsOk rows → c.Chk.length ≤ 900000 ∧ ∃ o, Ordr rows o ∧ Lst rows o.reverse c)) : Tot (pf40 c c) fun c => c = true := by
  by_cases hok : RowsOk rows
  · obtain ⟨hl, o, _, hL⟩ := h.2 hok
    have := hL.len
    have hn := hB.n
    exact c40 c (by omega) (by omega) (by omega)
  · rw [h.1 hok]
    exact c40 _ (by decide) (by decide) (by decide)
theorem t12 (a0 : List (List Int)) (a1 : Int) : pf12 a0 a1 = some true := by
  suffices h : Tot (pf12 a0 a1) fun r => r = true by
    obtain ⟨r, hr, e⟩ := h; rw [hr, e]
  unfold pf12
  rw [w37]
  refine Tot.sm (.by' (c38 a0 a1) fun x hx => ?_)
  have hxl := hx.1
  refine .by' (Ξ := fun y => y = x.map List.reverse) ?_ fun y hy => ?_
  · refine Tot.count (fun s => s.2) x.length (fun s => ∃ k : Nat, k ≤ x.length ∧ s.2 = (k : Int) ∧ s.1 = (x.take k).map List.reverse) ⟨0, Nat.zero_le _, rfl, rfl⟩ (by show (x.length : Int) - 0 < _; omega) fun s hs => ?_
    obtain ⟨l, k'⟩ := s
    obtain ⟨k, hk, rfl, rfl⟩ := hs
    simp only
    have hw : w64 ((k : Int) + 1) = ((k + 1 : Nat) : Int) := by rw [w64_eq]; omega
    rw [hw]
    refine Tot.cp (fun hlt => ?_) (fun hge => .so ?_)
    · have hlt : k < x.length := by omega
      have hgk := hx.2 _ (List.getElem_mem hlt)
      have hrl := hgk.l
      simp only [idx_nat hlt, Option.bind_some]
      generalize he : x[k] = r
      rw [he] at hrl
      refine .by' (Ξ := fun z => z = r.reverse) ?_ fun z hz => .by' (Ξ := fun _ => True) (Tot.ap (by simp [lim]; omega) trivial) fun _ _ => .so ⟨⟨k + 1, by omega, rfl, ?_⟩, ?_, ?_⟩
      · refine Tot.count (fun s => -s.2) 1 (fun s => ∃ j : Nat, j ≤ r.length ∧ s.2 = (j : Int) - 1 ∧ s.1 = (r.drop j).reverse) ⟨r.length, Nat.le_refl _, by show w64 _ = _; rw [w64_eq]; omega, by simp⟩ (by show 1 - -w64 ((r.length : Int) - 1) < _; rw [w64_eq]; omega) fun s hs => ?_
        obtain ⟨m, j'⟩ := s
        obtain ⟨j, hj, rfl, rfl⟩ := hs
        simp only
        refine Tot.cp (fun h => ?_) (fun h => .so ?_)
        · obtain ⟨j, rfl⟩ : ∃ i, j = i + 1 := ⟨j - 1, by omega⟩
          have e : ((j + 1 : Nat) : Int) - 1 = (j : Int) := by omega
          have hjl : j < r.length := by omega
          rw [e, idx_nat hjl]
          refine Tot.sm (.by' (Ξ := fun _ => True) (Tot.ap (by simp [lim]; omega) trivial) fun _ _ => .so ⟨⟨j, by omega, by show w64 _ = _; rw [w64_eq]; omega, ?_⟩, ?_, ?_⟩)
          · show (r.drop (j + 1)).reverse ++ [r[j]] = (r.drop j).reverse
            rw [← List.getElem_cons_drop hjl, List.reverse_cons]
          · show -(j : Int) < -w64 ((j : Int) - 1); rw [w64_eq]; omega
          · show -w64 ((j : Int) - 1) ≤ 1; rw [w64_eq]; omega
        · have : j = 0 := by omega
          subst this
          rfl
      · subst hz
        show (x.take k).map List.reverse ++ [r.reverse] = _
        rw [List.take_add_one, List.getElem?_eq_getElem hlt, he, List.map_append]; rfl
      · show (k : Int) < ((k + 1 : Nat) : Int); omega
      · show ((k + 1 : Nat) : Int) ≤ _; omega
    · have : k = x.length := by omega
      subst this
      rw [List.take_length]
      rfl
  subst hy
  have hbk : (x.map List.reverse).length ≤ 14 ∧ ∀ r ∈ x.map List.reverse, Good r := by
    refine ⟨by simpa using hxl, fun r hr => ?_⟩
    obtain ⟨q, hq, rfl⟩ := List.mem_map.1 hr
    have hg := hx.2 q hq
    refine ⟨by simpa using hg.l, ⟨fun p hp => hg.ok.at' p (by simpa using hp), ?_⟩⟩
    rw [List.map_reverse]
    exact (List.reverse_perm _).nodup_iff.2 hg.ok.nd
  refine .by' (c41 x (rowsB hx)) fun c hc => .by' (c41 _ (rowsB hbk)) fun d hd => ?_
  have h40 := c40' c x (rowsB hx) hc
  obtain ⟨_, o, ho, hL⟩ := hc.2 (rowsOk hx)
  obtain ⟨_, o', ho', hL'⟩ := hd.2 (rowsOk hbk)
  have hlen : ∀ a : Int, lenI (x.map List.reverse) a = lenI x a := by
    intro a
    unfold lenI idx
    split
    · rw [List.getElem?_map]
      cases x[a.toNat]? <;> simp
    · rfl
  have ho2 : Ordr x o' := by
    refine ⟨fun i => ?_, ho'.nd, ho'.pw.imp fun {a b} h => ?_⟩
    · rw [ho'.mem i, List.getElem?_map]
      cases h : x[i]? with
      | none => simp
      | some r => simp
    · unfold ltK at h ⊢
      rw [hlen, hlen] at h
      exact h
  have := ho.uniq ho2
  subst this
  have hcd : c = d := hL.det (by simp) (fun i r r' e1 e2 p => by
    rw [List.getElem?_map, e1] at e2
    cases e2
    simp) hL'
  subst hcd
  refine .by' (Ξ := fun r => r = true) (.by' h40 fun b hb => Tot.cd (fun _ => .so (decide_eq_true ?_)) (fun h => by rw [hb] at h; cases h)) fun r hr => .so hr
  have := hL.len
  omega
end Go.Proofs
