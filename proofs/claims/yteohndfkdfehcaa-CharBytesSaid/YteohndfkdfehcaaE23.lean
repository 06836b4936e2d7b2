import Derived.Test.YteohndfkdfehcaaE22
namespace Go.Own
open Go

abbrev Acc := List (Nat × Nat × Option AV)

/-- What operation 'A' sees: the state ahead of the region, and what those of 'A' have left. -/
def visG (g0 : Gst) (A : Nat → Bool) : Acc → Gst
  | [], t => g0 t
  | (k, d, r) :: acc, t => if d = t then (if A k then r else none) else visG g0 A acc t

def pendPlace : Nat × Nat × Option AV → Option Place
  | (_, _, some (.pend _ p _ _ _)) => some p
  | _ => none

def ancOk (ops : Array Oper) (AT : List (List Nat)) : Bool :=
  (List.range ops.size).all fun k =>
    match ops[k]? with
    | none => true
    | some o => (o.after.all fun e => !Region.binds .any e || decide (e.on < k)) && (AT.getD k []).all fun m => decide (m < k) && o.after.any fun e => Region.binds .any e && (e.on == m || (AT.getD e.on []).contains m)

inductive Seg (P : Program) (N : Rm) (ops : Array Oper) (AT : List (List Nat)) (g0 : Gst) (i : Nat) : Nat → Acc → Prop
  | nil : Seg P N ops AT g0 i i []
  | step {j : Nat} {acc : Acc} {o : Oper} {d : Nat} {r : Option AV} (h : Seg P N ops AT g0 i j acc) (ho : ops[j]? = some o) (hd : o.dst = some d) (hg : g0 d = none) (hn : ∀ e ∈ acc, e.2.1 ≠ d) (hdN : N.ok d = true)
      (hs : StepOk P (visG g0 (fun m => (AT.getD j []).contains m) acc) ops o r) : Seg P N ops AT g0 i (j + 1) ((j, d, r) :: acc)

/-- A region, in any order: parts in which nothing is changed, in any order; between them operations that all else stands ahead of, or behind. -/
inductive DRun (P : Program) (N : Rm) (ops : Array Oper) (AT : List (List Nat)) : Nat → Gst → Gst → Prop
  | fin {i : Nat} {g : Gst} {acc : Acc} (hs : Seg P N ops AT g i ops.size acc) (hpd : (acc.filterMap pendPlace).Nodup) (hp0 : ∀ t z q n m new, g t ≠ some (.pend z q n m new)) : DRun P N ops AT i g (visG g (fun _ => true) acc)
  | bar {i j : Nat} {g g1 g' : Gst} {acc : Acc} {o : Oper} (hs : Seg P N ops AT g i j acc) (hpd : (acc.filterMap pendPlace).Nodup) (hp0 : ∀ t z q n m new, g t ≠ some (.pend z q n m new)) (ho : ops[j]? = some o) (hw : Wanted (visG g (fun _ => true) acc) ops o true)
      (he : EO P N (visG g (fun _ => true) acc) o g1) (ha : (List.range j).all (fun k => (AT.getD j []).contains k) = true) (hb : (List.range ops.size).all (fun k => decide (k ≤ j) || (AT.getD k []).contains j) = true) (hr : DRun P N ops AT (j + 1) g1 g') : DRun P N ops AT i g g'

section
variable {P : Program} {N : Rm} {ops : Array Oper} {AT : List (List Nat)} {g0 : Gst} {i : Nat}

theorem Seg.le {j : Nat} {acc : Acc} (h : Seg P N ops AT g0 i j acc) : i ≤ j ∧ ∀ e ∈ acc, i ≤ e.1 ∧ e.1 < j := by
  induction h with
  | nil => exact ⟨Nat.le_refl _, by simp⟩
  | step _ _ _ _ _ _ _ ih =>
    refine ⟨by omega, fun e he => ?_⟩
    rcases List.mem_cons.1 he with rfl | he
    · exact ⟨ih.1, by simp⟩
    · have := ih.2 e he; omega

theorem Seg.fresh {j : Nat} {acc : Acc} (h : Seg P N ops AT g0 i j acc) : ∀ e ∈ acc, g0 e.2.1 = none := by
  induction h with
  | nil => simp
  | step _ _ _ hg _ _ _ ih =>
    intro e he
    rcases List.mem_cons.1 he with rfl | he
    · exact hg
    · exact ih e he

theorem visG_out {A : Nat → Bool} {acc : Acc} {t : Nat} (h : ∀ e ∈ acc, e.2.1 ≠ t) : visG g0 A acc t = g0 t := by
  induction acc with
  | nil => rfl
  | cons e acc ih =>
    obtain ⟨k, d, r⟩ := e
    simp only [visG]
    rw [if_neg (h (k, d, r) (by simp)), ih fun e he => h e (by simp [he])]

theorem visG_some {A : Nat → Bool} {acc : Acc} {t : Nat} {x : AV} (h : visG g0 A acc t = some x) : (∃ e ∈ acc, e.2.1 = t ∧ A e.1 = true ∧ e.2.2 = some x) ∨ ((∀ e ∈ acc, e.2.1 ≠ t) ∧ g0 t = some x) := by
  induction acc with
  | nil => exact .inr ⟨by simp, h⟩
  | cons e acc ih =>
    obtain ⟨k, d, r⟩ := e
    simp only [visG] at h
    by_cases hd : d = t
    · rw [if_pos hd] at h
      by_cases hA : A k = true
      · rw [if_pos hA] at h; exact .inl ⟨(k, d, r), by simp, hd, hA, h⟩
      · rw [if_neg hA] at h; cases h
    · rw [if_neg hd] at h
      rcases ih h with ⟨e, he, r⟩ | ⟨h1, h2⟩
      · exact .inl ⟨e, by simp [he], r⟩
      · refine .inr ⟨fun e he => ?_, h2⟩
        rcases List.mem_cons.1 he with rfl | he
        · exact hd
        · exact h1 e he

/-- Slots are distinct: an entry is what its slot shows. -/
theorem Seg.at_mem {j : Nat} {acc : Acc} (h : Seg P N ops AT g0 i j acc) {A : Nat → Bool} {e : Nat × Nat × Option AV} (he : e ∈ acc) : visG g0 A acc e.2.1 = if A e.1 then e.2.2 else none := by
  induction h with
  | nil => simp at he
  | @step j acc o d r _ _ _ _ hn _ _ ih =>
    rcases List.mem_cons.1 he with rfl | he
    · simp [visG]
    · simp only [visG]
      rw [if_neg fun e' => hn e he e'.symm, ih he]

theorem Seg.uniq {j : Nat} {acc : Acc} (h : Seg P N ops AT g0 i j acc) {e e' : Nat × Nat × Option AV} (he : e ∈ acc) (he' : e' ∈ acc) : (e.1 = e'.1 ∨ e.2.1 = e'.2.1) → e = e' := by
  induction h with
  | nil => simp at he
  | @step j acc o d r hs _ _ _ hn _ _ ih =>
    intro hh
    rcases List.mem_cons.1 he with rfl | he <;> rcases List.mem_cons.1 he' with rfl | he'
    · rfl
    · rcases hh with hh | hh
      · have := (hs.le.2 e' he').2; simp at hh; omega
      · exact absurd hh.symm (hn e' he')
    · rcases hh with hh | hh
      · have := (hs.le.2 e he).2; simp at hh; omega
      · exact absurd hh (hn e he)
    · exact ih he he' hh

/-- What is known of each operation of a segment. -/
theorem Seg.get {j : Nat} {acc : Acc} (h : Seg P N ops AT g0 i j acc) : ∀ k, i ≤ k → k < j → ∃ o d r acc0, ops[k]? = some o ∧ o.dst = some d ∧ g0 d = none ∧ N.ok d = true ∧ (k, d, r) ∈ acc ∧ StepOk P (visG g0 (fun m => (AT.getD k []).contains m) acc0) ops o r ∧ (∀ e ∈ acc0, e ∈ acc) ∧ Seg P N ops AT g0 i k acc0 := by
  induction h with
  | nil => intro k h1 h2; omega
  | @step j acc o d r hs ho hd hg hn hdN hst ih =>
    intro k h1 h2
    by_cases hk : k = j
    · subst hk
      exact ⟨o, d, r, acc, ho, hd, hg, hdN, by simp, hst, fun e he => by simp [he], hs⟩
    · obtain ⟨o', d', r', acc0, a1, a2, a3, a4, a5, a6, a7, a8⟩ := ih k h1 (by omega)
      exact ⟨o', d', r', acc0, a1, a2, a3, a4, by simp [a5], a6, fun e he => by simp [a7 e he], a8⟩

theorem pend_uniq {acc : Acc} (hpd : (acc.filterMap pendPlace).Nodup) {e e' : Nat × Nat × Option AV} {p : Place} (he : e ∈ acc) (he' : e' ∈ acc) (h : pendPlace e = some p) (h' : pendPlace e' = some p) : e = e' := by
  induction acc with
  | nil => simp at he
  | cons a acc ih =>
    have mem : ∀ {x : Nat × Nat × Option AV}, x ∈ acc → pendPlace x = some p → p ∈ acc.filterMap pendPlace := fun hx hp => List.mem_filterMap.2 ⟨_, hx, hp⟩
    rcases List.mem_cons.1 he with rfl | he1 <;> rcases List.mem_cons.1 he' with rfl | he1'
    · rfl
    · rw [List.filterMap_cons, h] at hpd
      exact absurd (mem he1' h') (List.nodup_cons.1 hpd).1
    · rw [List.filterMap_cons, h'] at hpd
      exact absurd (mem he1 h) (List.nodup_cons.1 hpd).1
    · refine ih ?_ he1 he1'
      rw [List.filterMap_cons] at hpd
      cases hp : pendPlace a with
      | none => rw [hp] at hpd; exact hpd
      | some q => rw [hp] at hpd; exact (List.nodup_cons.1 hpd).2

/-- The listed operations. -/
def Lst (listed : Array Bool) (k : Nat) : Bool := listed.getD k false

def cnt (ops : Array Oper) (listed : Array Bool) : Nat := ((List.range ops.size).filter fun k => !Lst listed k).length

theorem cnt_set {listed : Array Bool} {k : Nat} (hk : k < ops.size) (hl : Lst listed k = false) (hsz : listed.size = ops.size) : cnt ops (listed.setIfInBounds k true) + 1 ≤ cnt ops listed := by
  unfold cnt
  have key : ∀ l : List Nat, l.Nodup → ((l.filter fun j => !Lst (listed.setIfInBounds k true) j).length + if k ∈ l then 1 else 0) = (l.filter fun j => !Lst listed j).length := by
    intro l
    induction l with
    | nil => intro _; simp
    | cons j l ih =>
      intro hnd
      have hnd' := List.nodup_cons.1 hnd
      have ih' := ih hnd'.2
      by_cases hjk : j = k
      · subst hjk
        have h1 : Lst (listed.setIfInBounds j true) j = true := by simp [Lst, hsz, hk]
        rw [List.filter_cons, List.filter_cons]
        simp only [h1, hl, Bool.not_true, Bool.not_false, if_true, if_false, Bool.false_eq_true, List.length_cons, List.mem_cons, true_or]
        rw [if_neg hnd'.1] at ih'
        omega
      · have h1 : Lst (listed.setIfInBounds k true) j = Lst listed j := by simp [Lst, Array.getElem?_setIfInBounds_ne (Ne.symm hjk)]
        rw [List.filter_cons, List.filter_cons, h1]
        have hmem : (k ∈ j :: l) ↔ k ∈ l := by simp [Ne.symm hjk]
        by_cases hb : (!Lst listed j) = true
        · simp only [hb, if_true, List.length_cons, hmem]; omega
        · simp only [hb, hmem]; simpa using ih'
  have := key (List.range ops.size) List.nodup_range
  rw [if_pos (List.mem_range.2 hk)] at this
  omega
end
end Go.Own
