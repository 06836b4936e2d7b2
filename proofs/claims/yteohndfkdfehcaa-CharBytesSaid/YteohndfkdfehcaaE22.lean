import Derived.Test.YteohndfkdfehcaaE21
namespace Go.Own
open Go

def putR (g : Gst) (d : Nat) : Option AV → Gst
  | some x => upd g d x
  | none => g

section
variable {P : Program} {w : World} {I : BSet} {T : Array Value} {g : Gst} {Fs : Nat → BSet} {N : Rm} {ops : Array Oper}


theorem St.refl (w : World) (I U : BSet) : St w I U w I U := ⟨Fr.refl _ _, fun _ h => h, fun _ h => .inl h, fun _ h => .inl h⟩

theorem St.trans {w w1 w2 : World} {I I1 I2 U U1 U2 : BSet} (h : St w I U w1 I1 U1) (h1 : St w1 I1 U1 w2 I2 U2) : St w I U w2 I2 U2 := by
  have old : ∀ c, c < w.heap.size → U1 c → U c := fun c hc hu => by
    rcases h.own c hu with h' | h'
    · exact h'
    · omega
  refine ⟨h.fr.trans h1.fr old, fun c hc => h1.more c (h.more c hc), fun c hc => ?_, fun c hc => ?_⟩
  · rcases h1.new c hc with h' | h' | h'
    · exact h.new c h'
    · rcases h.own c h' with h'' | h''
      · exact .inr (.inl h'')
      · exact .inr (.inr h'')
    · exact .inr (.inr (Nat.le_trans h.fr.size h'))
  · rcases h1.own c hc with h' | h'
    · exact h.own c h'
    · exact .inr (Nat.le_trans h.fr.size h')

theorem Next'.trans {N : Rm} {a a1 a2 : Act} {w1 w2 : World} {I1 : BSet} {Fs1 : Nat → BSet} {g2 : Gst} (h1 : a1.defers = a.defers) (h2 : Hold N a.tmps a1.tmps) (hst : St w I (fun c => ∃ t, Fs t c) w1 I1 (fun c => ∃ t, Fs1 t c)) (h : Next' N a1 w1 I1 Fs1 g2 a2 w2) : Next' N a w I Fs g2 a2 w2 := by
  obtain ⟨e1, e2, I2, Fs2, hS, hst2⟩ := h
  exact ⟨e1.trans h1, h2.trans e2, I2, Fs2, hS, hst.trans hst2⟩

theorem SR.putNone (h : SR w I T g Fs) {d : Nat} (hd : g d = none) (v : Value) : SR w I (T.setIfInBounds d v) g Fs := by
  have hT : ∀ t, g t ≠ none → (T.setIfInBounds d v)[t]? = T[t]? := by
    intro t ht
    rw [Array.getElem?_setIfInBounds_ne]
    rintro rfl; exact ht hd
  refine ⟨fun t x hx => ?_, h.non, h.dis, h.imm, h.lt, h.pok⟩
  obtain ⟨u, hu, hR⟩ := h.rel t x hx
  exact ⟨u, by rw [hT t (by rw [hx]; simp)]; exact hu, h.frameT hT (fun _ _ _ => rfl) (fun _ _ => rfl) (fun _ h => h) (fun _ _ h => h) hR fun _ _ => rfl⟩

/-- One operation that hands back a value (or is passed over), into a fresh slot. -/
theorem StepOk.sound (h : SR w I T g Fs) {a : Act} (ha : a.tmps = T) (hN : a.tmps.size = N.size) {o : Oper} {r : Option AV} {d : Nat} (hs : StepOk P g ops o r) (hd : o.dst = some d) (hg : g d = none) (hdN : N.ok d = true) {K : Act → World → Prop} {Q : Exit → Act → World → Prop}
    (hK : ∀ a' w', Next' N a w I Fs (putR g d r) a' w' → K a' w') :
    if Region.wanted o (yielded ops a.tmps) then o.wp P a w K Q ∨ (o.asks P a w ∧ LetsOut Q) else K (a.put o.dst undef) w := by
  subst ha
  cases r with
  | none =>
    rw [Wanted.sound h hs]
    simp only [Bool.false_eq_true, if_false]
    refine hK _ _ ⟨by rw [hd]; rfl, by rw [hd]; exact Hold.put hdN _ _, I, Fs, by rw [hd]; exact h.putNone hg _, St.refl _ _ _⟩
  | some x =>
    rw [Wanted.sound h hs.1]
    simp only [if_true]
    refine .inl ?_
    have fin : ∀ v w', Gives w I a.tmps g Fs x v w' → K (a.put o.dst v) w' := by
      rintro v w' ⟨F, I', hS, hR, h1, h2, h3, h4, h5, h6⟩
      refine hK _ _ ⟨by rw [hd]; rfl, by rw [hd]; exact Hold.put hdN _ _, I', _, by rw [hd]; exact hS.put0 hg (by rw [hN]; exact Rm.lt hdN) hR (fun t c hc hf => h1 t c hc hf) (fun c hc => (h2 c hc).2) h6, ⟨h5, h3, fun c hc => ?_, fun c hc => ?_⟩⟩
      · rcases h4 c hc with h' | h'
        · exact .inl h'
        · exact .inr (.inr h')
      · rcases upd_updF hc with h' | h'
        · exact .inl h'
        · exact .inr (h2 c h').1
    rcases hs.2 with hp | hp
    · obtain ⟨v, w', hrun, hG⟩ := hp.sound h rfl
      unfold Oper.wp Oper.upon
      simp only [hrun]
      exact fin v w' hG
    · exact hp.sound h rfl fin

/-- Operations one behind the other. -/
inductive Run (P : Program) (N : Rm) (ops : Array Oper) : List Nat → Gst → Gst → Prop
  | nil {g : Gst} : Run P N ops [] g g
  | step {i : Nat} {rest : List Nat} {g g' : Gst} {o : Oper} {d : Nat} {r : Option AV} (ho : ops[i]? = some o) (hd : o.dst = some d) (hg : g d = none) (hdN : N.ok d = true) (hs : StepOk P g ops o r)
      (hr : Run P N ops rest (putR g d r) g') : Run P N ops (i :: rest) g g'
  | eff {i : Nat} {rest : List Nat} {g g1 g' : Gst} {o : Oper} (ho : ops[i]? = some o) (hw : Wanted g ops o true) (he : EO P N g o g1) (hr : Run P N ops rest g1 g') : Run P N ops (i :: rest) g g'
  | drop {is : List Nat} {g g' : Gst} {d : Nat} {x : AV} (hd : g d = some x) (hl : leaf x = true) (hr : Run P N ops is (del g d) g') : Run P N ops is g g'
  | forget {is : List Nat} {g g1 g' : Gst} (hk : Keep g g1) (hr : Run P N ops is g1 g') : Run P N ops is g g'

theorem Run.sound {is : List Nat} {g' : Gst} (hr : Run P N ops is g g') : ∀ {a : Act} {w : World} {I : BSet} {Fs : Nat → BSet} {Q : Exit → Act → World → Prop}, SR w I a.tmps g Fs → a.tmps.size = N.size →
    (∀ a' w', Next' N a w I Fs g' a' w' → Q .normal a' w') → wpOps P ops Q is a w := by
  induction hr with
  | nil => exact fun hS hN hQ => hQ _ _ ⟨rfl, Hold.refl, _, _, hS, St.refl _ _ _⟩
  | @step i rest g g' o d r ho hd hg hdN hs _ ih =>
    intro a w I Fs Q hS hN hQ
    simp only [wpOps, ho]
    refine hs.sound hS rfl hN hd hg hdN fun a' w' hn => ?_
    obtain ⟨e1, e2, I', Fs', hS', hst⟩ := hn
    exact ih hS' (e2.1.trans hN) fun a2 w2 h2 => hQ _ _ (Next'.trans e1 e2 hst h2)
  | @eff i rest g g1 g' o ho hw he _ ih =>
    intro a w I Fs Q hS hN hQ
    simp only [wpOps, ho, hw.sound hS, if_true]
    refine .inl (he.sound hS rfl hN fun a' w' hn => ?_)
    obtain ⟨e1, e2, I', Fs', hS', hst⟩ := hn
    exact ih hS' (e2.1.trans hN) fun a2 w2 h2 => hQ _ _ (Next'.trans e1 e2 hst h2)
  | @drop is g g' d x hd hl _ ih => exact fun hS hN hQ => ih (hS.drop hd hl) hN hQ
  | @forget is g g1 g' hk _ ih =>
    intro a w I Fs Q hS hN hQ
    have hS' := hS.toC.keep hk
    refine ih hS' hN fun a2 w2 h2 => hQ _ _ (Next'.trans rfl Hold.refl ⟨Fr.refl _ _, fun _ h => h, fun _ h => .inl h, fun c hc => ?_⟩ h2)
    obtain ⟨t, _, hc⟩ := hc
    exact .inl ⟨t, hc⟩
end
end Go.Own
