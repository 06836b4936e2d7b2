import Derived.Test.YteohndfkdfehcaaE15
namespace Go.Own
open Go

/-- The state, its references by what they stand for alone. -/
structure SRc (w : World) (I : BSet) (T : Array Value) (g : Gst) (Fs : Nat → BSet) : Prop where
  rel : ∀ t x, g t = some x → ∃ v, T[t]? = some v ∧ RT w I (RefAt w T) x v (Fs t)
  non : ∀ t, g t = none → ∀ c, ¬ Fs t c
  dis : ∀ t t' c, Fs t c → Fs t' c → t = t'
  imm : ∀ t c, Fs t c → ¬ I c
  lt : ∀ c, I c → c < w.heap.size

def setP (g : Gst) (p : Place) (y : AV) : Gst := fun t => if t = p.root then (g t).map fun x => x.setAt p.path y else g t

/-- All references in it lead to something that the state knows. -/
inductive RK (g : Gst) : AV → Prop
  | nr {x : AV} (h : NR x) : RK g x
  | ref {x : AV} (hx : x.isRef = true) (h : RefOk g x) : RK g x
  | own {z n : Nat} {cs : List AV} (h : ∀ x ∈ cs, RK g x) : RK g (.own z n cs)
  | obj {cs : List AV} (h : ∀ x ∈ cs, RK g x) : RK g (.obj cs)
  | agg {cs : List AV} (h : ∀ x ∈ cs, RK g x) : RK g (.agg cs)
  | tup {cs : List AV} (h : ∀ x ∈ cs, RK g x) : RK g (.tup cs)
  | clo {fn : Fn} {a b : List AV} (h1 : ∀ x ∈ a, RK g x) (h2 : ∀ x ∈ b, RK g x) : RK g (.clo fn a b)
  | pend {z n m : Nat} {p : Place} {new : List AV} (hp : RefOk g (.pend z p n 0 [])) (h : ∀ x ∈ new, RK g x) : RK g (.pend z p n m new)

section
variable {w : World} {I : BSet} {T : Array Value} {g : Gst} {Fs : Nat → BSet}

theorem R.rk {x : AV} {v : Value} {F : BSet} (h : R w I (RefAt w T) x v F) : RK g x → R w I (RG w T g) x v F := by
  induction h with
  | lit h hF => exact fun _ => .lit h hF
  | nils hF => exact fun _ => .nils hF
  | dead hF => exact fun _ => .dead hF
  | @ref x _ _ hx h hF =>
    intro hk
    refine .ref hx ⟨h, ?_⟩ hF
    cases hk with
    | ref _ h => exact h
    | nr h => cases h <;> simp [AV.isRef] at hx
    | _ => simp [AV.isRef] at hx
  | imm0 hF => exact fun _ => .imm0 hF
  | imm hF hcap hI hs hl h1 hc hr ih =>
    intro hk
    cases hk with
    | ref hx => simp [AV.isRef] at hx
    | nr h => cases h with | imm h => exact .imm hF hcap hI hs hl h1 hc fun k x hx => ih k x hx (.nr (h x (List.mem_of_getElem? hx)))
  | iptr hF hI hs h1 hc hr ih =>
    intro hk
    cases hk with
    | ref hx => simp [AV.isRef] at hx
    | nr h => cases h with | iptr h => exact .iptr hF hI hs h1 hc fun k x hx => ih k x hx (.nr (h x (List.mem_of_getElem? hx)))
  | own ho hl h1 hr hd hb hF ih =>
    intro hk
    refine .own ho hl h1 (fun k x u hx hu => ih k x u hx hu ?_) hd hb hF
    cases hk with
    | ref hx => simp [AV.isRef] at hx
    | nr h => cases h with | own h => exact .nr (h x (List.mem_of_getElem? hx))
    | own h => exact h x (List.mem_of_getElem? hx)
  | obj ho hl h1 hr hd hb hF ih =>
    intro hk
    refine .obj ho hl h1 (fun k x u hx hu => ih k x u hx hu ?_) hd hb hF
    cases hk with
    | ref hx => simp [AV.isRef] at hx
    | nr h => cases h with | obj h => exact .nr (h x (List.mem_of_getElem? hx))
    | obj h => exact h x (List.mem_of_getElem? hx)
  | agg hl h1 hr hd hF ih =>
    intro hk
    refine .agg hl h1 (fun k x u hx hu => ih k x u hx hu ?_) hd hF
    cases hk with
    | ref hx => simp [AV.isRef] at hx
    | nr h => cases h with | agg h => exact .nr (h x (List.mem_of_getElem? hx))
    | agg h => exact h x (List.mem_of_getElem? hx)
  | tup hl hr hd hF ih =>
    intro hk
    refine .tup hl (fun k x u hx hu => ih k x u hx hu ?_) hd hF
    cases hk with
    | ref hx => simp [AV.isRef] at hx
    | nr h => cases h with | tup h => exact .nr (h x (List.mem_of_getElem? hx))
    | tup h => exact h x (List.mem_of_getElem? hx)
  | @clo fn first caps v1 v2 F hF h1 h2 hr1 hr2 ih1 ih2 =>
    intro hk
    have : (∀ x ∈ first, RK g x) ∧ ∀ x ∈ caps, RK g x := by
      cases hk with
      | ref hx => simp [AV.isRef] at hx
      | nr h => cases h with | clo h1 h2 => exact ⟨fun x hx => .nr (h1 x hx), fun x hx => .nr (h2 x hx)⟩
      | clo h1 h2 => exact ⟨h1, h2⟩
    exact .clo hF h1 h2 (fun k x u hx hu => ih1 k x u hx hu (this.1 x (List.mem_of_getElem? hx))) (fun k x u hx hu => ih2 k x u hx hu (this.2 x (List.mem_of_getElem? hx)))

theorem RT.rk {x : AV} {v : Value} {F : BSet} (h : RT w I (RefAt w T) x v F) (hk : RK g x) : RT w I (RG w T g) x v F := by
  cases h with
  | tree h => exact .tree (h.rk hk)
  | pend h =>
    cases hk with
    | nr h => cases h
    | ref hx => simp [AV.isRef] at hx
    | pend hp hn => exact .pend ⟨⟨h.hbv, hp⟩, h.hob, h.hov, h.hl, h.h1, fun k x u hx hu => (h.hr k x u hx hu).rk (hn x (List.mem_of_getElem? hx)), h.hF⟩

theorem SR.toC (h : SR w I T g Fs) : SRc w I T g Fs :=
  ⟨fun t x hx => by
    obtain ⟨v, hv, hR⟩ := h.rel t x hx
    refine ⟨v, hv, ?_⟩
    cases hR with
    | tree hR => exact .tree (hR.frame (fun _ _ => rfl) (fun _ h => h) (fun _ _ h => h.1) fun _ _ => rfl)
    | pend hR => exact .pend ⟨hR.hbv.1, hR.hob, hR.hov, hR.hl, hR.h1, fun k x u hx hu => (hR.hr k x u hx hu).frame (fun _ _ => rfl) (fun _ h => h) (fun _ _ h => h.1) fun _ _ => rfl, hR.hF⟩,
   h.non, h.dis, h.imm, h.lt⟩

/-- Back: of what is kept all references must lead somewhere. -/
theorem SRc.toR (h : SRc w I T g Fs) {g' : Gst} (hg : ∀ t x, g' t = some x → g t = some x) (hk : ∀ t x, g' t = some x → RK g' x)
    (hp : ∀ t t' z p n m new z' n' m' new', g' t = some (.pend z p n m new) → g' t' = some (.pend z' p n' m' new') → t = t') : SR w I T g' (fun t c => g' t ≠ none ∧ Fs t c) := by
  refine ⟨fun t x hx => ?_, fun t ht c hc => hc.1 ht, fun t t' c hc hc' => h.dis t t' c hc.2 hc'.2, fun t c hc => h.imm t c hc.2, h.lt, hp⟩
  obtain ⟨v, hv, hR⟩ := h.rel t x (hg t x hx)
  have : Fs t = fun c => g' t ≠ none ∧ Fs t c := by
    funext c
    exact propext ⟨fun hc => ⟨by rw [hx]; simp, hc⟩, fun hc => hc.2⟩
  refine ⟨v, hv, ?_⟩
  rw [← this]
  exact hR.rk (hk t x hx)

theorem SRc.part (h : SRc w I T g Fs) {p : Place} {y : AV} (hp : atP g p = some y) (hy : ∀ z q n m new, y ≠ .pend z q n m new) : ∃ v Fy, valAt w T p = some v ∧ R w I (RefAt w T) y v Fy ∧ (∀ c, Fy c → Fs p.root c) ∧
    ∀ (y' : AV) (Fy' : BSet), R w I (RefAt w T) y' v Fy' → (∀ c, Fy' c → Fs p.root c → Fy c) → (∀ c, Fy' c → ¬ I c) → (∀ t c, t ≠ p.root → Fy' c → ¬ Fs t c) →
      ∃ Fs', SRc w I T (setP g p y') Fs' ∧ (∀ c, Fs' p.root c ↔ (Fs p.root c ∧ ¬ Fy c) ∨ Fy' c) ∧ ∀ t, t ≠ p.root → Fs' t = Fs t := by
  unfold atP at hp
  cases hx : g p.root with
  | none => rw [hx] at hp; cases hp
  | some x =>
    rw [hx] at hp
    obtain ⟨v, hv, hR⟩ := h.rel _ _ hx
    replace hR := hR.isTree (by
      rintro z q n m new rfl
      exact hy _ _ _ _ _ (AV.at_pend hp).2)
    obtain ⟨vy, Fy, hw, hRy, hFy, wk, rebuild⟩ := R.focus p.path hR hp
    refine ⟨vy, Fy, by simp [valAt, hv, hw], hRy, hFy, fun y' Fy' hR' hdis hI hoth => ?_⟩
    obtain ⟨F', hRF, hF'⟩ := rebuild w I (RefAt w T) y' Fy' ⟨fun _ _ => rfl, fun _ _ _ => rfl, fun _ h => h, fun _ _ h => h⟩ hR' hdis
    refine ⟨fun t => if t = p.root then F' else Fs t, ⟨fun t x' hx' => ?_, fun t ht c => ?_, fun t t' c hc hc' => ?_, fun t c hc => ?_, h.lt⟩, fun c => by simp [hF' c], fun t ht => by simp [ht]⟩
    · by_cases htr : t = p.root
      · subst htr
        have hx'' : x.setAt p.path y' = x' := by simpa [setP, hx] using hx'
        subst hx''
        exact ⟨v, hv, .tree (by simpa using hRF)⟩
      · simp only [setP, if_neg htr] at hx'
        simpa [htr] using h.rel t x' hx'
    · by_cases htr : t = p.root
      · subst htr; simp [setP, hx] at ht
      · simp only [setP, if_neg htr] at ht; simpa [htr] using h.non t ht c
    · by_cases h1 : t = p.root <;> by_cases h2 : t' = p.root <;> simp only [h1, h2, if_true, if_false] at hc hc'
      · rw [h1, h2]
      · rcases (hF' c).1 hc with ⟨h3, _⟩ | h3
        · rw [h1]; exact h.dis _ _ _ h3 hc'
        · exact absurd hc' (hoth t' c h2 h3)
      · rcases (hF' c).1 hc' with ⟨h3, _⟩ | h3
        · rw [h2]; exact h.dis _ _ _ hc h3
        · exact absurd hc (hoth t c h1 h3)
      · exact h.dis _ _ _ hc hc'
    · by_cases h1 : t = p.root <;> simp only [h1, if_true, if_false] at hc
      · rcases (hF' c).1 hc with ⟨h3, _⟩ | h3
        · exact h.imm _ c h3
        · exact hI c h3
      · exact h.imm t c hc
end
end Go.Own
