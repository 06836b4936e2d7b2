import Derived.Test.YteohndfkdfehcaaE25
namespace Go.Own
open Go

/-- What a function's result holds. -/
inductive ResV (P : Program) (g : Gst) : ResultVar → AV → Prop
  | tmp {t : Nat} {y : AV} (h : opd g (.tmp t) = some y) : ResV P g (.tmp t) y
  | cell {a : Nat} {t ty : TypeId} {y : AV} (h : PS1 P g (.load t (.tmp a)) ty y) : ResV P g (.cell a t) y

inductive ResVs (P : Program) (g : Gst) : List ResultVar → List AV → Prop
  | nil : ResVs P g [] []
  | cons {r : ResultVar} {rs : List ResultVar} {y : AV} {ys : List AV} (h : ResV P g r y) (ht : ResVs P g rs ys) : ResVs P g (r :: rs) (y :: ys)

/-- One result stands alone, others in a tuple. -/
def resAV : List AV → AV
  | [x] => x
  | l => .tup l

def resV : List Value → Value
  | [x] => x
  | l => .tuple l.toArray

def resSem (tmps : Array Value) : ResultVar → Sem Value
  | .tmp t => pure (tmps.getD t undef)
  | .cell a t => do loadVar t (← asAddr (tmps.getD a undef))

section
variable {P : Program} {w : World} {I : BSet} {g : Gst} {Fs : Nat → BSet}

theorem ResV.run {a : Act} (h : SR w I a.tmps g Fs) {r : ResultVar} {y : AV} (hr : ResV P g r y) : ∃ v, (resSem a.tmps r).run P w = .ok v w ∧ R w I (RG w a.tmps g) y v E0 := by
  cases hr with
  | @tmp t y h1 => exact ⟨_, rfl, opd_sound h h1 rfl⟩
  | @cell a0 t ty y h1 =>
    obtain ⟨v, hv, hR⟩ := PS1.sound h rfl (o := { dst := none, op := .load t (.tmp a0), type := ty, pos := "", after := #[], guard := none }) h1
    refine ⟨v, ?_, hR⟩
    have he : a.eval (.tmp a0) = a.tmps.getD a0 undef := rfl
    simp only [execOp, he] at hv
    cases hc : a.tmps.getD a0 undef with
    | pointer ad =>
      cases ad with
      | some ad =>
        rw [hc] at hv
        simp only [Instr.loadAt, Instr.sureAddr] at hv
        simp only [resSem, hc, asAddr]
        have hp : (pure ad >>= fun x => loadVar t x : Sem Value) = loadVar t ad := by simp
        rw [hp]
        revert hv
        generalize hq : loadVar t ad = q
        intro hv
        simp [hq] at hv
        cases hqr : q.run P w with
        | ok x w2 => rw [hqr] at hv; simp at hv; rw [hv.1, hv.2]
        | halt e w2 => rw [hqr] at hv; simp at hv
      | none => rw [hc] at hv; simp [Instr.loadAt, Instr.sureAddr] at hv
    | _ => rw [hc] at hv; simp [Instr.loadAt, Instr.sureAddr] at hv

theorem run_mapM {f : ResultVar → Sem Value} : ∀ (l : List ResultVar) (vs : List Value), l.length = vs.length → (∀ (k : Nat) (r : ResultVar) (v : Value), l[k]? = some r → vs[k]? = some v → (f r).run P w = .ok v w) → (l.mapM f).run P w = .ok vs w
  | [], [], _, _ => rfl
  | r :: l, v :: vs, hl, h => by
    have h0 := h 0 r v rfl rfl
    have h1 := run_mapM l vs (by simpa using hl) fun k r v hr hv => h (k + 1) r v (by simpa using hr) (by simpa using hv)
    simp [List.mapM_cons, h0, h1]
  | [], _ :: _, hl, _ => by simp at hl
  | _ :: _, [], hl, _ => by simp at hl

theorem run_results {fn : Func} {tmps : Array Value} {vs : List Value} (hl : fn.results.toList.length = vs.length) (h : ∀ (k : Nat) (r : ResultVar) (v : Value), fn.results.toList[k]? = some r → vs[k]? = some v → (resSem tmps r).run P w = .ok v w) : (results fn tmps).run P w = .ok (resV vs) w := by
  have h1 := run_mapM fn.results.toList vs hl h
  have h2 : fn.results.mapM (resSem tmps) = List.toArray <$> fn.results.toList.mapM (resSem tmps) := Array.mapM_eq_mapM_toList
  have h3 : (fn.results.mapM (resSem tmps)).run P w = .ok vs.toArray w := by rw [h2]; simp [h1]
  have h4 : results fn tmps = (do let vs ← fn.results.mapM (resSem tmps); pure (if h : vs.size = 1 then vs[0] else .tuple vs)) := by
    unfold results
    congr 1
  rw [h4]
  simp only [Sem.run_bind, h3]
  match vs with
  | [] => rfl
  | [x] => rfl
  | x :: y :: l => simp [resV]

theorem ResVs.length {g : Gst} {rs : List ResultVar} {ys : List AV} (h : ResVs P g rs ys) : rs.length = ys.length := by
  induction h with
  | nil => rfl
  | cons _ _ ih => simp [ih]

theorem ResVs.run {a : Act} (h : SR w I a.tmps g Fs) {rs : List ResultVar} {ys : List AV} (hr : ResVs P g rs ys) : ∃ vs : List Value, rs.length = vs.length ∧ (∀ (k : Nat) (r : ResultVar) (v : Value), rs[k]? = some r → vs[k]? = some v → (resSem a.tmps r).run P w = .ok v w) ∧
    ∀ (k : Nat) (y : AV) (v : Value), ys[k]? = some y → vs[k]? = some v → R w I (RG w a.tmps g) y v E0 := by
  induction hr with
  | nil => exact ⟨[], rfl, by simp, by simp⟩
  | cons h1 _ ih =>
    obtain ⟨v, hv, hR⟩ := h1.run h
    obtain ⟨vs, hl, h2, h3⟩ := ih
    refine ⟨v :: vs, by simp [hl], fun k r u hr hu => ?_, fun k y u hy hu => ?_⟩
    · cases k with
      | zero => simp at hr hu; subst hr hu; exact hv
      | succ k => exact h2 k r u (by simpa using hr) (by simpa using hu)
    · cases k with
      | zero => simp at hy hu; subst hy hu; exact hR
      | succ k => exact h3 k y u (by simpa using hy) (by simpa using hu)

theorem Hand.resAV {ρ : AV → Value → Prop} {Fs : Nat → BSet} {xs : List AV} {vs : List Value} {Hs : Nat → BSet} (h : Hand w I ρ Fs xs vs Hs) (hn : ∀ x ∈ xs, NR x) (ρ' : AV → Value → Prop) : R w I ρ' (resAV xs) (resV vs) (fun c => ∃ k, k < xs.length ∧ Hs k c) ∧ NR (resAV xs) := by
  have tup : R w I ρ' (.tup xs) (.tuple vs.toArray) (fun c => ∃ k, k < xs.length ∧ Hs k c) :=
    .tup (by simpa using h.len) (fun k x u hx hu => (h.rel k x u hx (by simpa using hu)).nr (hn x (List.mem_of_getElem? hx))) h.dis fun c => Iff.rfl
  match xs, vs, h, hn, tup with
  | [], [], _, _, tup => exact ⟨tup, .tup (by simp)⟩
  | [x], [v], h, hn, _ =>
    refine ⟨((h.rel 0 x v rfl rfl).nr (hn x (by simp))).congrF fun c => ⟨fun hc => ⟨0, by simp, hc⟩, fun ⟨k, hk, hc⟩ => ?_⟩, hn x (by simp)⟩
    have : k = 0 := by simpa using hk
    subst this; exact hc
  | x :: y :: l, v :: u :: m, _, hn, tup => exact ⟨tup, .tup hn⟩
  | [], _ :: _, h, _, _ => have := h.len; simp at this
  | _ :: _, [], h, _, _ => have := h.len; simp at this
  | [_], _ :: _ :: _, h, _, _ => have := h.len; simp at this
  | _ :: _ :: _, [_], h, _, _ => have := h.len; simp at this

/-- How a function is left. -/
structure Leaves (P : Program) (N : Rm) (rs : List ResultVar) (g' : Gst) (n : Nat) (outs : List (Option AV)) (res : AV) : Prop where
  ex : ∃ ys xs g1, ResVs P g' rs ys ∧ Take g' ys xs g1 ∧ res = resAV xs ∧ ∀ (k : Nat) (x : AV), outs[k]? = some (some x) → g1 k = some x ∧ NR x ∧ k ∈ N.pins
  len : outs.length = n

theorem SR.more {T : Array Value} (h : SR w I T g Fs) {T' : Array Value} (hT : ∀ t, g t ≠ none → T'[t]? = T[t]?) : SR w I T' g Fs := by
  refine ⟨fun t x hx => ?_, h.non, h.dis, h.imm, h.lt, h.pok⟩
  obtain ⟨u, hu, hR⟩ := h.rel t x hx
  exact ⟨u, by rw [hT t (by rw [hx]; simp)]; exact hu, h.frameT hT (fun _ _ _ => rfl) (fun _ _ => rfl) (fun _ h => h) (fun _ _ h => h) hR fun _ _ => rfl⟩

end
end Go.Own
