import Derived.Test.YteohndfkdfehcaaE30
import Derived.RowKit3
namespace Go.Own
open Go Go.RowKit

theorem SR.lits {w : World} (vs : List Value) (h : ∀ v ∈ vs, v.oneCell' = true) : SR w (fun _ => False) vs.toArray (argG (vs.map .lit)) (fun _ => E0) := by
  refine ⟨fun t x hx => ?_, fun _ _ _ h => h, fun _ _ _ h => h.elim, fun _ _ h => h.elim, fun _ h => h.elim, fun t t' z p n m new z' n' m' new' h1 _ => ?_⟩
  · simp only [argG, List.getElem?_map] at hx
    cases hv : vs[t]? with
    | none => rw [hv] at hx; cases hx
    | some v =>
      rw [hv] at hx
      simp only [Option.map_some, Option.some.injEq] at hx
      subst hx
      exact ⟨v, by simpa using hv, .tree (.lit (h v (List.mem_of_getElem? hv)) fun _ h => h)⟩
  · simp only [argG, List.getElem?_map] at h1
    cases hv : vs[t]? with
    | none => rw [hv] at h1; cases h1
    | some v => rw [hv] at h1; cases h1

/-- From a contract on plain values to the walk that a row asks for. -/
theorem Con.walk {P : Program} {f : FuncId} {vs : List Value} {outs : List (Option AV)} {r : Value} (hc : Con P f (vs.map .lit) outs (.lit r)) (h : ∀ v ∈ vs, v.oneCell' = true) (w : World) :
    Calls P f vs.toArray w fun e w' => e = .returned r ∧ Grown w w' := by
  have := hc.2 w (fun _ => False) vs _ (by simp) (SR.lits vs h)
  refine this.mono ?_
  rintro e w' ⟨v, I', Fs', rfl, hS, hst⟩
  obtain ⟨u, hu, hR⟩ := hS.rel outs.length (.lit r) (by simp [outG])
  have hl : outs.length = vs.length := by rw [hc.1]; simp
  have huv : u = v := by
    rw [hl] at hu
    simpa using hu.symm
  subst huv
  have hv := (hR.isTree (by simp)).inv_lit.1
  subst hv
  refine ⟨rfl, ⟨hst.fr.os, hst.fr.output, fun i hi => ?_⟩, hst.fr.fz, hst.fr.size⟩
  rw [hst.fr.block i hi fun ⟨_, h⟩ => h]
  exact (World.keptBut_refl w (fun _ => False)).2.2 i hi
end Go.Own
