/-
  What is proved here: parts of the proof that QTb states last: rules for walks through code, and of this program's functions what they answer. No condition of their own.
-/
import Derived.KernelRfl
import Derived.Test.YteohndfkdfehcaaE5
namespace Go.Proofs
open Go Go.Own
set_option maxRecDepth 100000
set_option linter.unusedVariables false
theorem tks_len (b c : Int) : ∀ (ws : List Int) (i : Nat), (tks b c i ws).length = ws.length
  | [], _ => rfl
  | _ :: ws, i => by simp [tks, tks_len b c ws]
theorem tks_get (b c : Int) : ∀ (ws : List Int) (i k : Nat), (tks b c i ws)[k]? = (ws[k]?).map fun w => ⟨tn (i + k), false, b + c * (i + k : Nat), (i + k : Nat) + 1, w + 1, nE⟩
  | [], _, _ => rfl
  | _ :: ws, i, 0 => rfl
  | _ :: ws, i, k + 1 => by
    simp only [tks, List.getElem?_cons_succ, tks_get b c ws (i + 1) k]
    rw [show i + 1 + k = i + (k + 1) by omega]
theorem tok_lv (ws : List Int) (o s k : Nat) (h : k < ws.length) : tokS (grm ws o s) (k + 3) = ((k : Int) + 1, ws[k] + 1) := by
  have : (grm ws o s).Toks[k + 3]? = some ⟨tn k, false, 57346 + 1 * (k : Nat), (k : Nat) + 1, ws[k] + 1, nE⟩ := by
    show ((T3 ++ tks 57346 1 0 ws) ++ [tx])[k + 3]? = _
    rw [List.append_assoc, List.getElem?_append_right (by show 3 ≤ k + 3; omega)]
    show (tks 57346 1 0 ws ++ [tx])[k + 3 - 3]? = _
    rw [List.getElem?_append_left (by rw [tks_len]; omega), tks_get, show k + 3 - 3 = k by omega, List.getElem?_eq_getElem h, Nat.zero_add]
    rfl
  have e : idx (grm ws o s).Toks ((k : Int) + 3) = some ⟨tn k, false, 57346 + 1 * (k : Nat), (k : Nat) + 1, ws[k] + 1, nE⟩ := by
    unfold idx
    rw [if_pos (by omega), show ((k : Int) + 3).toNat = k + 3 by omega, this]
  unfold tokS
  rw [e]
theorem tok_x (ws : List Int) (o s : Nat) : tokS (grm ws o s) (ws.length + 3) = (0, 0) := by
  have : (grm ws o s).Toks[ws.length + 3]? = some tx := by
    show ((T3 ++ tks 57346 1 0 ws) ++ [tx])[ws.length + 3]? = _
    rw [List.append_assoc, List.getElem?_append_right (by show 3 ≤ ws.length + 3; omega)]
    show (tks 57346 1 0 ws ++ [tx])[ws.length + 3 - 3]? = _
    rw [List.getElem?_append_right (by rw [tks_len]; omega), tks_len, show ws.length + 3 - 3 - ws.length = 0 by omega]
    rfl
  have e : idx (grm ws o s).Toks ((ws.length : Int) + 3) = some tx := by
    unfold idx
    rw [if_pos (by omega), show ((ws.length : Int) + 3).toNat = ws.length + 3 by omega, this]
  unfold tokS
  rw [e]
  rfl
theorem prs_get : ∀ (n k : Nat), k < n → (prs n)[k + 1]? = some (pr k)
  | n + 1, k, h => by
    simp only [prs]
    by_cases hk : k < n
    · rw [List.getElem?_append_left (by rw [prs_len]; omega)]
      exact prs_get n k hk
    · have : k = n := by omega
      subst this
      rw [List.getElem?_append_right (by rw [prs_len]; omega), prs_len, show k + 1 - (k + 1) = 0 by omega]
      rfl
theorem lev_i (ws : List Int) (o s k : Nat) (h : k < ws.length) : levS (grm ws o s) (k + 1) = ((k : Int) + 1, ws[k] + 1) := by
  have e : idx (grm ws o s).Prods ((k : Int) + 1) = some (pr k) := by
    unfold idx
    rw [if_pos (by omega), show ((k : Int) + 1).toNat = k + 1 by omega]
    show ((prs ws.length ++ [px ws.length]) ++ [pl o s])[k + 1]? = _
    rw [List.append_assoc, List.getElem?_append_left (by rw [prs_len]; omega), prs_get _ _ h]
  unfold levS
  rw [e]
  exact tok_lv ws o s k h
theorem lev_x (ws : List Int) (o s : Nat) : levS (grm ws o s) (ws.length + 1) = (0, 0) := by
  have e : idx (grm ws o s).Prods ((ws.length : Int) + 1) = some (px ws.length) := by
    unfold idx
    rw [if_pos (by omega), show ((ws.length : Int) + 1).toNat = ws.length + 1 by omega]
    show ((prs ws.length ++ [px ws.length]) ++ [pl o s])[ws.length + 1]? = _
    rw [List.append_assoc, List.getElem?_append_right (by rw [prs_len]; omega), prs_len, show ws.length + 1 - (ws.length + 1) = 0 by omega]
    rfl
  unfold levS
  rw [e]
  exact tok_x ws o s
theorem e24 (l : List Int) (i k : Nat) (hi : i < (wsK l).length) : Tot (pf24 l i k) fun r => r = decS ((i : Int) + 1) ((k : Int) + 1, (if h : k < (wsK l).length then (wsK l)[k] else 0) + 1) := by
  unfold pf24 decS
  refine Tot.cp (fun h => .so ?_) (fun h => Tot.cp (fun h2 => .so ?_) (fun h2 => ?_))
  · rw [if_neg (by simp only; omega), if_pos (by simp only; omega)]
  · rw [if_neg (by simp only; omega), if_neg (by simp only; omega), if_pos (by simp only; omega)]
  · have : k = i := by omega
    subst this
    rw [dif_pos hi]
    obtain ⟨a, ha, hw⟩ := wsK_get l k hi
    obtain ⟨h9, h10⟩ := wi_spec a
    rw [ha, hw]
    refine Tot.sm ?_
    rw [h9]
    refine Tot.sm ?_
    rcases h10 with e | e | e <;> rw [e]
    · exact ⟨2, rfl, by rw [if_neg (by simp only; omega), if_neg (by simp only; omega), if_pos (by simp only; omega)]⟩
    · exact ⟨1, rfl, by rw [if_neg (by simp only; omega), if_pos (.inr ⟨rfl, rfl⟩)]⟩
    · exact ⟨3, rfl, by rw [if_neg (by simp only; omega), if_neg (by simp only; omega), if_neg (by simp only; omega)]⟩
theorem t4 (l : List Int) : Tot (pf4 l) fun r => r = true := by
  unfold pf4
  rw [w15]
  refine Tot.sm (Tot.cd (fun h => by cases h) (fun _ => ?_))
  by_cases hl : l = []
  · subst hl
    exact ⟨true, by kernel_rfl, rfl⟩
  have hpos : 0 < l.length := List.length_pos_iff.2 hl
  refine .by' (e23 l 0 0 (by show (0 : Int) < _; omega) (by show (0 : Int) < _; omega)) fun x3 h3 => ?_
  subst h3
  refine Tot.cd (fun h => by cases h) (fun _ => ?_)
  have hn := wsK_len l
  simp only [← hn]
  refine Tot.by' (Ξ := LR (fun _ => True) (fun _ => False)) ?_ fun r hr => by
    rcases r with r | r
    · exact .so rfl
    · exact hr.elim
  refine Tot.count (fun i => i) (wsK l).length (fun i => 0 ≤ i) (Int.le_refl 0) (by show ((wsK l).length : Int) - 0 < _; omega) fun i hi => ?_
  refine Tot.cp (fun hlt => ?_) (fun _ => .so trivial)
  obtain ⟨p, rfl⟩ : ∃ p : Nat, i = p := ⟨i.toNat, by omega⟩
  have hp : p < (wsK l).length := by omega
  have w1 : w64 ((p : Int) + 1) = (p : Int) + 1 := by rw [w64_eq]; omega
  refine Tot.by' (Ξ := LR (fun _ => True) (fun _ => False)) ?_ fun r hr => ?_
  · refine Tot.count (fun i => i) (wsK l).length (fun i => 0 ≤ i) (Int.le_refl 0) (by show ((wsK l).length : Int) - 0 < _; omega) fun i hi => ?_
    refine Tot.cp (fun hlt => ?_) (fun _ => .so trivial)
    obtain ⟨k, rfl⟩ : ∃ p : Nat, i = p := ⟨i.toNat, by omega⟩
    have hk : k < (wsK l).length := by omega
    have w2 : w64 ((k : Int) + 1) = (k : Int) + 1 := by rw [w64_eq]; omega
    have w3 : w64 ((k : Int) + 3) = (k : Int) + 3 := by rw [w64_eq]; omega
    rw [w1, w2, w3, e21, lev_i _ _ _ _ hp, tok_lv _ _ _ _ hk]
    refine Tot.sm (.by' (e24 l p k hp) fun x hx => ?_)
    subst hx
    rw [dif_pos hk]
    refine Tot.cn (fun h => absurd rfl h) (fun _ => .so ⟨?_, ?_, ?_⟩)
    · show (0 : Int) ≤ k + 1; omega
    · show (k : Int) < k + 1; omega
    · show (k : Int) + 1 ≤ _; omega
  · rcases r with r | r
    · have w3 : w64 ((p : Int) + 3) = (p : Int) + 3 := by rw [w64_eq]; omega
      have w4 : w64 (((wsK l).length : Int) + 3) = ((wsK l).length : Int) + 3 := by rw [w64_eq]; omega
      have w5 : w64 (((wsK l).length : Int) + 1) = ((wsK l).length : Int) + 1 := by rw [w64_eq]; omega
      simp only [w1, w3, w4, w5]
      rw [e21, lev_i _ _ _ _ hp, tok_x, e21, lev_x]
      refine .by' (Ξ := fun c => c = false) ?_ fun c hc => ?_
      · have z1 : decS ((p : Int) + 1) (0, 0) = 0 := by unfold decS; rw [if_pos (.inr rfl)]
        have z2 : ∀ k, decS 0 k = 0 := fun k => by unfold decS; rw [if_pos (.inl rfl)]
        simp only [Option.bind_some, z1, z2]
        exact .so rfl
      · subst hc
        refine .so ⟨?_, ?_, ?_⟩
        · show (0 : Int) ≤ p + 1; omega
        · show (p : Int) < p + 1; omega
        · show (p : Int) + 1 ≤ _; omega
    · exact hr.elim
end Go.Proofs
namespace Go.Proofs
open Go Go.Own
set_option maxRecDepth 100000
theorem uI : Try.prog.underlying 3 = some (.int .i64) := by kernel_rfl
def okI (n : Int) : Prop := (Lit.int .i64 n).wf = true
def okL {α : Type} (p : α → Prop) (l : List α) : Prop := l.length ≤ maxLen ∧ ∀ x ∈ l, p x
theorem aI : Ar Try.prog eI 3 okI := .int uI (by kernel_rfl) fun _ => rfl
theorem uLI : Try.prog.underlying 27 = some (.slice 3) := by kernel_rfl
theorem aLI : Ar Try.prog (eM eI) 27 (okL okI) := aI.slice (t := 27) uLI (by kernel_rfl) (by decide)
theorem pLaid : laidOutB Try.prog = true := by kernel_rfl
theorem pMaps : mapsRowed Try.prog = true := by kernel_rfl
theorem pFull : ((List.range Try.prog.types.size).all fun t => match Try.prog.underlying t with | some (.slice e) => decide (0 < Try.prog.cellsOf e) | _ => true) = true := by kernel_rfl
end Go.Proofs
