import Derived.Test.YteohndfkdfehcaaE3
namespace Go.Own
open Go

/-! ### Facts on types, as Bools -/
def cellT (P : Program) (t : TypeId) : Bool :=
  match P.underlying t, P.info? t with
  | some (.struct _), _ => false
  | some (.array ..), _ => false
  | some _, some i => i.size == 1
  | _, _ => false

def aggT (P : Program) (t : TypeId) (k : Nat) : Bool :=
  match P.underlying t, P.info? t with
  | some (.struct _), some i => i.size == k
  | some (.array ..), some i => i.size == k
  | _, _ => false

def slT (P : Program) (t e : TypeId) (z : Nat) : Bool :=
  match P.underlying t, P.info? e with
  | some (.slice e'), some i => e' == e && i.size == z
  | _, _ => false

def arrT (P : Program) (t e : TypeId) (n z : Nat) : Bool :=
  match P.underlying t, P.info? e with
  | some (.array n' e'), some i => n' == n && e' == e && i.size == z
  | _, _ => false

def strT (P : Program) (t : TypeId) : Bool :=
  match P.underlying t with
  | some .string => true
  | _ => false

/-- From bytes to a text. -/
def bytT (P : Program) (s d : TypeId) : Bool :=
  match P.underlying s, P.underlying d with
  | some (.slice e), some .string => match P.underlying e with
    | some (.int .u8) => true
    | _ => false
  | _, _ => false

/-- Field 'f' of the struct 's' begins at cell 'off' and has the type 't'. -/
def fldT (P : Program) (s : TypeId) (f off : Nat) (t : TypeId) : Bool :=
  match P.underlying s with
  | some (.struct fs) =>
    match fs[f]? with
    | some fd => fd.offset == off && fd.type == t && (match P.info? t with | some i => i.size != 0 | none => false)
    | none => false
  | _ => false

section
variable {P : Program} {w : World}

theorem cellT_spec {t : TypeId} (h : cellT P t = true) : (isAgg t).run P w = .ok false w ∧ (sizeOf t).run P w = .ok 1 w := by
  unfold cellT at h
  cases hu : P.underlying t with
  | none => simp [hu] at h
  | some d =>
    cases hi : P.info? t with
    | none => cases d <;> simp [hu, hi] at h
    | some i => cases d <;> simp [hu, hi] at h <;> simp [isAgg, run_underlying hu, sizeOf, typeInfo, hi, h]

theorem aggT_spec {t : TypeId} {k : Nat} (h : aggT P t k = true) : (isAgg t).run P w = .ok true w ∧ (sizeOf t).run P w = .ok k w := by
  unfold aggT at h
  cases hu : P.underlying t with
  | none => simp [hu] at h
  | some d =>
    cases hi : P.info? t with
    | none => cases d <;> simp [hu, hi] at h
    | some i => cases d <;> simp [hu, hi] at h <;> simp [isAgg, run_underlying hu, sizeOf, typeInfo, hi, h]

theorem slT_spec {t e : TypeId} {z : Nat} (h : slT P t e z = true) : P.underlying t = some (.slice e) ∧ P.elem t = e ∧ (sizeOf e).run P w = .ok z w := by
  unfold slT at h
  cases hu : P.underlying t with
  | none => simp [hu] at h
  | some d =>
    cases hi : P.info? e with
    | none => cases d <;> simp [hu, hi] at h
    | some i =>
      cases d <;> simp [hu, hi] at h
      obtain ⟨rfl, h⟩ := h
      exact ⟨rfl, by simp [Program.elem, hu], by simp [sizeOf, typeInfo, hi, h]⟩

theorem arrT_spec {t e : TypeId} {n z : Nat} (h : arrT P t e n z = true) : P.underlying t = some (.array n e) ∧ (sizeOf e).run P w = .ok z w := by
  unfold arrT at h
  cases hu : P.underlying t with
  | none => simp [hu] at h
  | some d =>
    cases hi : P.info? e with
    | none => cases d <;> simp [hu, hi] at h
    | some i =>
      cases d <;> simp [hu, hi] at h
      obtain ⟨⟨rfl, rfl⟩, h⟩ := h
      exact ⟨rfl, by simp [sizeOf, typeInfo, hi, h]⟩

theorem bytT_spec {s d : TypeId} (h : bytT P s d = true) : ∃ e, P.underlying s = some (.slice e) ∧ P.underlying e = some (.int .u8) ∧ P.underlying d = some .string := by
  unfold bytT at h
  split at h
  · rename_i e h1 h2
    split at h
    · rename_i h3
      exact ⟨e, h1, h3, h2⟩
    · cases h
  · cases h

theorem strT_spec {t : TypeId} (h : strT P t = true) : P.underlying t = some .string := by
  unfold strT at h
  cases hu : P.underlying t with
  | none => simp [hu] at h
  | some d => cases d <;> simp [hu] at h; rfl

theorem fldT_spec {s : TypeId} {f off : Nat} {t : TypeId} (h : fldT P s f off t = true) : ∃ fs fd, P.underlying s = some (.struct fs) ∧ fs[f]? = some fd ∧ fd.offset = off ∧ fd.type = t ∧ ∃ i, P.info? t = some i ∧ i.size ≠ 0 := by
  unfold fldT at h
  cases hu : P.underlying s with
  | none => simp [hu] at h
  | some d =>
    cases d <;> simp [hu] at h
    rename_i fs
    cases hf : fs[f]? with
    | none => simp [hf] at h
    | some fd =>
      simp [hf] at h
      obtain ⟨⟨h1, h2⟩, h3⟩ := h
      cases hi : P.info? t with
      | none => simp [hi] at h3
      | some i => simp [hi] at h3; exact ⟨fs, fd, rfl, hf, h1, h2, i, rfl, h3⟩

theorem add_eq (b o k : Nat) : (⟨b, o, none⟩ : Addr).add k = ⟨b, o + k, none⟩ := by
  unfold Addr.add
  split
  · rename_i h; subst h; rfl
  · rfl

theorem run_fieldAt {s : TypeId} {f off : Nat} {t : TypeId} (h : fldT P s f off t = true) (b o : Nat) : (Instr.fieldAt s (.pointer (some ⟨b, o, none⟩)) f).run P w = .ok (.pointer (some ⟨b, o + off, none⟩)) w := by
  obtain ⟨fs, fd, hu, hf, rfl, rfl, i, hi, h0⟩ := fldT_spec h
  simp [Instr.fieldAt, run_underlying hu, hf, Instr.sureAddr, fieldPlace, sizeOf, typeInfo, hi, h0, add_eq]

theorem run_loadCell {t : TypeId} (h : cellT P t = true) {a : Addr} {v : Value} (hc : w.cell? a = some v) : (Instr.loadAt t (.pointer (some a))).run P w = .ok v w := by
  obtain ⟨h1, h2⟩ := cellT_spec (w := w) h
  simp [Instr.loadAt, Instr.sureAddr, loadVar, h1, hc]

theorem run_loadAgg {t : TypeId} {k : Nat} (h : aggT P t k = true) {b o : Nat} {vs : List Value} (hl : vs.length = k) (hc : ∀ j v, vs[j]? = some v → w.cell? ⟨b, o + j, none⟩ = some v) :
    (Instr.loadAt t (.pointer (some ⟨b, o, none⟩))).run P w = .ok (.agg vs.toArray) w := by
  obtain ⟨h1, h2⟩ := aggT_spec (w := w) h
  have := run_loadCells_list (P := P) w ⟨b, o, none⟩ vs (fun j v hj => by rw [add_eq]; exact hc j v hj)
  rw [hl] at this
  simp [Instr.loadAt, Instr.sureAddr, loadVar, h1, h2, this]
end
end Go.Own
