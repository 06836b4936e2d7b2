import Derived.Test.YteohndfkdfehcaaE31
namespace Go.Own
open Go

section
variable {P : Program} {g : Gst} {ty : TypeId} {a b : Operand} {t t2 : TypeId} {N : Rm} {ops : Array Oper} {K : Gst → Prop} {l : List Oper} {d : Nat} {pos : String} {after : Array Edge} {gd : Option (Nat × Bool)}

/-- A row of its own is taken from a temp into a variable. -/
theorem RunL.asgOwn {s z n : Nat} {cs : List AV} (ss : List Nat) {ls : List (Nat × AV)} (ht : g s = some (.own z n cs)) (hn : NR (.own z n cs)) (hl : cs.length = n * z) (hp : Pick g ss ls) (hs : get ls s = none) (hN : N.ok d = true) (hd : get ls d = none)
    (hk : RunL P N ops l (upd (get ls) d (.own z n cs)) K) : RunL P N ops (⟨some d, .assign (.tmp s), ty, pos, after, none⟩ :: l) g K := by
  intro i hi
  obtain ⟨h1, h2⟩ := drop_cons hi
  obtain ⟨g', hr, hK⟩ := hk (i + 1) h2
  have hnc : ∀ x ∈ cs, NR x := by cases hn with | own h => exact h
  refine ⟨g', .eff h1 rfl (.assign (x := .tmp s) (y := .brw z ⟨s, []⟩ n) (y' := .own z n cs) (g1 := setP g ⟨s, []⟩ .dead) (g2 := get ls) rfl rfl (by simp [opd, ht, refTop, refIn]) ?_ ?_ hd hN) hr, hK⟩
  · have hall : cs.take (n * z) = cs := List.take_of_length_le (by omega)
    exact .brw (N := n) (cs := cs) (by simp [atP, ht, AV.at]) (Nat.le_refl _) (by rw [hall]; exact .nr hnc) (.nr (by simp))
  · refine ⟨fun t x hx => ?_, fun t x hx => .nr (hp.spec t x hx).2, fun t z q n m new hx => by have := (hp.spec t _ hx).2; cases this⟩
    have hts : t ≠ s := by rintro rfl; rw [hs] at hx; cases hx
    rw [setP_slot hts]
    exact (hp.spec t x hx).1

theorem PS1.lenO {z n z' : Nat} {p : Place} {e : TypeId} (hx : Rd g a (.brw z p n)) (ht : slT P t e z' = true) : PS1 P g (.call { callee := .builtin .len, args := #[a], argTypes := #[t] }) ty (.lit (.int .i64 n)) := .lenBrw hx.opd ht
theorem PS1.lenI {z n z' : Nat} {cs : List AV} {e : TypeId} (hx : Rd g a (.imm z n cs)) (ht : slT P t e z' = true) : PS1 P g (.call { callee := .builtin .len, args := #[a], argTypes := #[t] }) ty (.lit (.int .i64 n)) := .lenImm hx.opd ht

theorem PS1.idxO {z n M : Nat} {p : Place} {cs : List AV} {i : Operand} {k : IntKind} {m : Int} {e : TypeId} (hx : Rd g a (.brw z p n)) (hi : Rd g i (.lit (.int k m))) (ht : slT P t e z = true) (hp : atP g p = some (.own z M cs)) (h : 0 ≤ m ∧ m < n) (hl : m.toNat * z < cs.length) :
    PS1 P g (.indexAddr t a i) ty (.ptr p (m.toNat * z)) := by
  obtain ⟨j, rfl⟩ := Int.eq_ofNat_of_zero_le h.1
  exact .idxBrw hx.opd hi.opd ht (by omega) ⟨_, hp, z, M, cs, .inl rfl, hl⟩

theorem PS1.loadL {p : Place} {k : Nat} {v : Value} (hx : Rd g a (.ptr p k)) (ht : cellT P t = true) (hy : atP g (p.push k) = some (.lit v)) : PS1 P g (.load t a) ty (.lit v) := by
  have := PS1.load1 (ty := ty) hx.opd ht hy
  exact this
theorem WL.stepD {c : Code} {Φ : Exit → Gst → Prop} (h : WL P N c g Φ) : WL P N c g Φ := h
end
end Go.Own
