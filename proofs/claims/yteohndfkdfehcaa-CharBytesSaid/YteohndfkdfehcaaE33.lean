import Derived.Test.YteohndfkdfehcaaE32
namespace Go.Own
open Go

theorem NR.litsAll {cs : List AV} (h : cs.all litB = true) : ∀ x ∈ cs, NR x := by
  intro x hx
  have := List.all_eq_true.1 h x hx
  cases x <;> simp [litB] at this
  exact .lit
theorem NR.tupL {cs : List AV} (h : cs.all litB = true) : NR (.tup cs) := .tup (NR.litsAll h)
theorem NR.litRow {z n : Nat} {vs : List Value} : NR (.own z n (vs.map .lit)) := .own (by simp [NR.lit])
theorem NR.byteRow {z n : Nat} {vs : List Int} : NR (.own z n (Own.byteRow vs)) := .own (by simp [Own.byteRow, NR.lit])
theorem NR.ownL {z n : Nat} {cs : List AV} (h : cs.all litB = true) : NR (.own z n cs) := .own (NR.litsAll h)
end Go.Own
