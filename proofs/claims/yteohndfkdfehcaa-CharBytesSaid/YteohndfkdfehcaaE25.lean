import Derived.Test.YteohndfkdfehcaaE24
namespace Go.Own
open Go

section
variable {P : Program} {N : Rm}

/-- Code that begins in the state 'g' leaves by 'e' in the state 'g''. -/
def Ev (P : Program) (N : Rm) (c : Code) (g : Gst) (e : Exit) (g' : Gst) : Prop :=
  ∀ ⦃Q : Exit → Act → World → Prop⦄ ⦃a : Act⦄ ⦃w : World⦄ ⦃I : BSet⦄ ⦃Fs : Nat → BSet⦄, SR w I a.tmps g Fs → a.tmps.size = N.size → (∀ a' w', Next' N a w I Fs g' a' w' → Q e a' w') → c.wp P Q a w

theorem Ev.skip {g : Gst} : Ev P N .skip g .normal g := fun _ _ _ _ _ hS _ hQ => wp_skip (hQ _ _ ⟨rfl, Hold.refl, _, _, hS, St.refl _ _ _⟩)
theorem Ev.ret {g : Gst} : Ev P N .ret g .ret g := fun _ _ _ _ _ hS _ hQ => wp_ret (hQ _ _ ⟨rfl, Hold.refl, _, _, hS, St.refl _ _ _⟩)
theorem Ev.exit {g : Gst} {id : Nat} : Ev P N (.exit id) g (.exit id) g := fun _ _ _ _ _ hS _ hQ => wp_exit (hQ _ _ ⟨rfl, Hold.refl, _, _, hS, St.refl _ _ _⟩)

theorem Ev.seq {x y : Code} {g g1 g' : Gst} {e : Exit} (h1 : Ev P N x g .normal g1) (h2 : Ev P N y g1 e g') : Ev P N (.seq x y) g e g' := by
  intro Q a w I Fs hS hN hQ
  refine wp_seq (h1 hS hN fun a1 w1 hn => ?_)
  obtain ⟨e1, e2, I', Fs', hS', hst⟩ := hn
  exact h2 hS' (e2.1.trans hN) fun a2 w2 hn2 => hQ _ _ (Next'.trans e1 e2 hst hn2)

theorem Ev.seqOut {x y : Code} {g g' : Gst} {e : Exit} (h : Ev P N x g e g') (he : e ≠ .normal) : Ev P N (.seq x y) g e g' := by
  intro Q a w I Fs hS hN hQ
  refine wp_seq (h hS hN fun a1 w1 hn => ?_)
  cases e with
  | normal => exact absurd rfl he
  | _ => exact hQ _ _ hn

theorem Ev.cond {c : Operand} {x y : Code} {g g' : Gst} {e : Exit} {b : Bool} (hc : opd g c = some (.lit (.bool b))) (h : Ev P N (if b then x else y) g e g') : Ev P N (.cond c x y) g e g' := by
  intro Q a w I Fs hS hN hQ
  exact wp_cond (t := b) (opd_sound hS hc rfl).inv_lit.1 (h hS hN hQ)

theorem Ev.condT {c : Operand} {x y : Code} {g g' : Gst} {e : Exit} (hc : opd g c = some (.lit (.bool true))) (h : Ev P N x g e g') : Ev P N (.cond c x y) g e g' := Ev.cond hc h
theorem Ev.condF {c : Operand} {x y : Code} {g g' : Gst} {e : Exit} (hc : opd g c = some (.lit (.bool false))) (h : Ev P N y g e g') : Ev P N (.cond c x y) g e g' := Ev.cond hc h

theorem Ev.block {id : Nat} {c : Code} {g g' : Gst} (h : Ev P N c g .normal g') : Ev P N (.block id c) g .normal g' :=
  fun _ _ _ _ _ hS hN hQ => wp_block (h hS hN fun a1 w1 hn => hQ a1 w1 hn)

theorem Ev.blockExit {id : Nat} {c : Code} {g g' : Gst} (h : Ev P N c g (.exit id) g') : Ev P N (.block id c) g .normal g' :=
  fun _ _ _ _ _ hS hN hQ => wp_block (h hS hN fun a1 w1 hn => by simp only [Exit.inBlock, if_true]; exact hQ a1 w1 hn)

theorem Ev.blockOther {id id' : Nat} {c : Code} {g g' : Gst} (h : Ev P N c g (.exit id') g') (hne : id' ≠ id) : Ev P N (.block id c) g (.exit id') g' :=
  fun _ _ _ _ _ hS hN hQ => wp_block (h hS hN fun a1 w1 hn => by simp only [Exit.inBlock, hne, if_false]; exact hQ a1 w1 hn)

theorem Ev.blockRet {id : Nat} {c : Code} {g g' : Gst} (h : Ev P N c g .ret g') : Ev P N (.block id c) g .ret g' :=
  fun _ _ _ _ _ hS hN hQ => wp_block (h hS hN fun a1 w1 hn => hQ a1 w1 hn)

/-- The head of a loop's round. -/
def LoopWp (P : Program) (c : Code) (Q : Exit → Act → World → Prop) (a : Act) (w : World) : Prop :=
  ∀ (b : Frame) (k : List Item) (cs : List Frame), ∃ e a' w', Q e a' w' ∧ Arrives P (lone (b.at a (.code c :: .inLoop c :: k)) cs w) b k cs e a' w'

def EvL (P : Program) (N : Rm) (c : Code) (g : Gst) (e : Exit) (g' : Gst) : Prop :=
  ∀ ⦃Q : Exit → Act → World → Prop⦄ ⦃a : Act⦄ ⦃w : World⦄ ⦃I : BSet⦄ ⦃Fs : Nat → BSet⦄, SR w I a.tmps g Fs → a.tmps.size = N.size → (∀ a' w', Next' N a w I Fs g' a' w' → Q e a' w') → LoopWp P c Q a w

theorem loopWp_of {c : Code} {Q : Exit → Act → World → Prop} {a : Act} {w : World} (h : c.wp P (Exit.then (LoopWp P c Q) Q) a w) : LoopWp P c Q a w := by
  intro b k cs
  obtain ⟨e, a₁, w₁, hq, harr⟩ := h b (.inLoop c :: k) cs
  cases e with
  | normal =>
    obtain ⟨e₂, a₂, w₂, hq₂, harr₂⟩ := hq b k cs
    exact ⟨e₂, a₂, w₂, hq₂, .of_steps (Steps.trans harr (.one step_inLoop)) harr₂⟩
  | exit id => exact ⟨_, a₁, w₁, hq, .pass (x := .inLoop c) rfl (fun _ _ => .inl (by simp)) harr⟩
  | goto l => exact ⟨_, a₁, w₁, hq, .pass (x := .inLoop c) rfl (fun _ _ => .inl (by simp)) harr⟩
  | ret => exact ⟨_, a₁, w₁, hq, .pass (x := .inLoop c) rfl (fun _ _ => .inl (by simp)) harr⟩
  | panic ch => exact ⟨_, a₁, w₁, hq, .pass (x := .inLoop c) rfl (fun _ _ => .inl (by simp)) harr⟩
  | outgrown => exact ⟨_, a₁, w₁, hq, .pass (x := .inLoop c) rfl (fun _ _ => .inl (by simp)) harr⟩

theorem Ev.loop {c : Code} {g g' : Gst} {e : Exit} (h : EvL P N c g e g') : Ev P N (.loop c) g e g' := by
  intro Q a w I Fs hS hN hQ b k cs
  obtain ⟨e, a', w', hq, harr⟩ := h hS hN hQ b k cs
  exact ⟨e, a', w', hq, .of_steps (.one step_loop) harr⟩

theorem EvL.step {c : Code} {g g1 g' : Gst} {e : Exit} (h1 : Ev P N c g .normal g1) (h2 : EvL P N c g1 e g') : EvL P N c g e g' := by
  intro Q a w I Fs hS hN hQ
  refine loopWp_of (h1 hS hN fun a1 w1 hn => ?_)
  obtain ⟨e1, e2, I', Fs', hS', hst⟩ := hn
  exact h2 hS' (e2.1.trans hN) fun a2 w2 hn2 => hQ _ _ (Next'.trans e1 e2 hst hn2)

theorem EvL.out {c : Code} {g g' : Gst} {e : Exit} (h : Ev P N c g e g') (he : e ≠ .normal) : EvL P N c g e g' := by
  intro Q a w I Fs hS hN hQ
  refine loopWp_of (h hS hN fun a1 w1 hn => ?_)
  cases e with
  | normal => exact absurd rfl he
  | _ => exact hQ _ _ hn

theorem Ev.region {id : Nat} {ops : Array Oper} {g g' : Gst} (h : Run P N ops (List.range ops.size) g g') : Ev P N (.region id ops false) g .normal g' :=
  fun _ _ _ _ _ hS hN hQ => wp_region (h.sound hS hN hQ)

theorem Ev.draw {id : Nat} {ops : Array Oper} {AT : List (List Nat)} {g g' : Gst} (hm : P.follows .mixedOrders = true) (hA : ancOk ops AT = true) (h : DRun P N ops AT 0 g g') : Ev P N (.region id ops true) g .normal g' := by
  intro Q a w I Fs hS hN hQ
  refine wp_region_any hm ?_
  have hS' : SR w.drew I a.tmps g Fs := hS.world (fun _ _ _ => rfl) (fun _ _ => rfl) (Nat.le_refl _)
  have hall : ∀ k, Lst (Array.replicate ops.size false) k = false := by
    intro k
    unfold Lst
    rcases Nat.lt_or_ge k ops.size with h | h
    · simp [h]
    · simp [Array.getElem?_eq_none (show (Array.replicate ops.size false).size ≤ k by simpa using h)]
  refine h.sound hA ops.size (Array.replicate ops.size false) a w.drew I Fs ?_ (by simp) (fun k hk => by omega) (fun k _ => hall k) hS' hN fun a' w' hn => hQ _ _ ?_
  · unfold cnt
    exact Nat.le_trans (List.length_filter_le _ _) (by simp)
  · obtain ⟨e1, e2, I', Fs', hS2, hst⟩ := hn
    exact ⟨e1, e2, I', Fs', hS2, ⟨⟨hst.fr.os, hst.fr.tape, hst.fr.output, hst.fr.size, hst.fr.block, hst.fr.fz⟩, hst.more, hst.new, hst.own⟩⟩

/-! ### A weaker state -/
inductive WkV : AV → AV → Prop
  | refl {x : AV} : WkV x x
  | dead {x : AV} (h : OO x ∨ NR x) : WkV x .dead
  | nilOwn {z : Nat} : WkV .nils (.own z 0 [])
  | nilImm {z : Nat} : WkV .nils (.imm z 0 [])
  | obj {cs cs' : List AV} (hl : cs'.length = cs.length) (h : ∀ (k : Nat) (x y : AV), cs[k]? = some x → cs'[k]? = some y → WkV x y) : WkV (.obj cs) (.obj cs')
  | own {z n : Nat} {cs cs' : List AV} (hl : cs'.length = cs.length) (h : ∀ (k : Nat) (x y : AV), cs[k]? = some x → cs'[k]? = some y → WkV x y) : WkV (.own z n cs) (.own z n cs')

theorem R.wk {w : World} {I : BSet} {ρ : AV → Value → Prop} {x x' : AV} (h : WkV x x') : ∀ {v : Value} {F : BSet}, R w I ρ x v F → ∃ F', R w I ρ x' v F' ∧ ∀ c, F' c → F c := by
  induction h with
  | refl => exact fun hR => ⟨_, hR, fun _ h => h⟩
  | dead => exact fun hR => ⟨E0, .dead fun _ h => h, fun _ h => h.elim⟩
  | nilOwn =>
    intro v F hR
    rw [hR.inv_nils]
    exact ⟨E0, .own (e := 0) (us := []) (Fs := fun _ => E0) ⟨by simp, .inl ⟨rfl, rfl⟩⟩ rfl (by simp) (by simp) (fun _ _ _ _ _ h => h.elim) (fun _ _ _ h => h.elim) fun c => ⟨fun h => h.elim, fun h => h.elim (fun h => by simp [Value.ownBlock] at h) fun ⟨_, _, h⟩ => h⟩, fun _ h => h.elim⟩
  | nilImm => intro v F hR; rw [hR.inv_nils]; exact ⟨E0, .imm0 fun _ h => h, fun _ h => h.elim⟩
  | @obj cs cs' hl _ ih =>
    intro v F hR
    cases hR with
    | ref hx => simp [AV.isRef] at hx
    | @obj _ b e arr Fk _ ho hl' h1 hr hd hb hF =>
      have : ∀ k, ∃ Fk' : BSet, k < cs.length → (∀ (x : AV) (u : Value), cs'[k]? = some x → arr[k]? = some u → R w I ρ x u Fk') ∧ ∀ c, Fk' c → Fk k c := by
        intro k
        by_cases hk : k < cs.length
        · have hx := List.getElem?_eq_getElem hk
          have hy : cs'[k]? = some (cs'[k]'(by omega)) := List.getElem?_eq_getElem (by omega)
          have hu : arr[k]? = some (arr[k]'(by omega)) := Array.getElem?_eq_getElem (by omega)
          obtain ⟨F', h1, h2⟩ := ih k _ _ hx hy (hr k _ _ hx hu)
          refine ⟨F', fun _ => ⟨fun x u hx' hu' => ?_, h2⟩⟩
          rw [hy] at hx'; rw [hu] at hu'
          cases hx'; cases hu'
          exact h1
        · exact ⟨E0, fun h => absurd h hk⟩
      obtain ⟨Fk', hFk'⟩ := Classical.axiomOfChoice this
      refine ⟨_, .obj (Fs := Fk') ho (by omega) h1 (fun k x u hx hu => (hFk' k (by rw [← hl]; exact (List.getElem?_eq_some_iff.1 hx).1)).1 x u hx hu) (fun j k c hj hk h h' => hd j k c (by omega) (by omega) ((hFk' j (by omega)).2 c h) ((hFk' k (by omega)).2 c h')) (fun k hk h => hb k (by omega) ((hFk' k (by omega)).2 b h)) (fun c => Iff.rfl), fun c hc => ?_⟩
      rcases hc with rfl | ⟨k, hk, h⟩
      · exact (hF _).2 (.inl rfl)
      · exact (hF c).2 (.inr ⟨k, by omega, (hFk' k (by omega)).2 c h⟩)
  | @own z n cs cs' hl _ ih =>
    intro v F hR
    cases hR with
    | ref hx => simp [AV.isRef] at hx
    | @own _ _ _ _ e us Fk _ ho hl' h1 hr hd hb hF =>
      have : ∀ k, ∃ Fk' : BSet, k < cs.length → (∀ (x : AV) (u : Value), cs'[k]? = some x → us[k]? = some u → R w I ρ x u Fk') ∧ ∀ c, Fk' c → Fk k c := by
        intro k
        by_cases hk : k < cs.length
        · have hx := List.getElem?_eq_getElem hk
          have hy : cs'[k]? = some (cs'[k]'(by omega)) := List.getElem?_eq_getElem (by omega)
          have hu : us[k]? = some (us[k]'(by omega)) := List.getElem?_eq_getElem (by omega)
          obtain ⟨F', h1, h2⟩ := ih k _ _ hx hy (hr k _ _ hx hu)
          refine ⟨F', fun _ => ⟨fun x u hx' hu' => ?_, h2⟩⟩
          rw [hy] at hx'; rw [hu] at hu'
          cases hx'; cases hu'
          exact h1
        · exact ⟨E0, fun h => absurd h hk⟩
      obtain ⟨Fk', hFk'⟩ := Classical.axiomOfChoice this
      refine ⟨_, .own (Fs := Fk') ho (by omega) h1 (fun k x u hx hu => (hFk' k (by rw [← hl]; exact (List.getElem?_eq_some_iff.1 hx).1)).1 x u hx hu) (fun j k c hj hk h h' => hd j k c (by omega) (by omega) ((hFk' j (by omega)).2 c h) ((hFk' k (by omega)).2 c h')) (fun k c hk h => hb k c (by omega) ((hFk' k (by omega)).2 c h)) (fun c => Iff.rfl), fun c hc => ?_⟩
      rcases hc with hc | ⟨k, hk, h⟩
      · exact (hF _).2 (.inl hc)
      · exact (hF c).2 (.inr ⟨k, by omega, (hFk' k (by omega)).2 c h⟩)

/-- 'g2' says no more than 'g1'. -/
structure Wk (g1 g2 : Gst) : Prop where
  sub : ∀ t x, g2 t = some x → ∃ y, g1 t = some y ∧ WkV y x
  rk : ∀ t x, g2 t = some x → RK g2 x
  np : ∀ t z q n m new, g2 t ≠ some (.pend z q n m new)

theorem SR.wk {w : World} {I : BSet} {T : Array Value} {g1 g2 : Gst} {Fs : Nat → BSet} (h : SR w I T g1 Fs) (hk : Wk g1 g2) : ∃ Fs', SR w I T g2 Fs' ∧ ∀ t c, Fs' t c → Fs t c := by
  have : ∀ t, ∃ F' : BSet, (∀ x, g2 t = some x → ∃ v, T[t]? = some v ∧ R w I (RG w T g2) x v F') ∧ (∀ c, F' c → Fs t c) ∧ (g2 t = none → ∀ c, ¬ F' c) := by
    intro t
    cases hx : g2 t with
    | none => exact ⟨E0, by simp, fun _ h => h.elim, fun _ _ h => h⟩
    | some x =>
      obtain ⟨y, hy, hw⟩ := hk.sub t x hx
      obtain ⟨v, hv, hR⟩ := h.toC.rel t y hy
      have hnp : ∀ z q n m new, y ≠ .pend z q n m new := by
        rintro z q n m new rfl
        cases hw with
        | refl => exact hk.np _ _ _ _ _ _ hx
        | dead hh => rcases hh with hh | hh <;> cases hh
      obtain ⟨F', hR', hF'⟩ := R.wk hw (hR.isTree hnp)
      exact ⟨F', fun x' hx' => by cases hx'; exact ⟨v, hv, hR'.rk (hk.rk t x hx)⟩, hF', by simp⟩
  obtain ⟨Fs', hFs'⟩ := Classical.axiomOfChoice this
  refine ⟨Fs', ⟨fun t x hx => ?_, fun t ht => (hFs' t).2.2 ht, fun t t' c h1 h2 => h.dis _ _ _ ((hFs' t).2.1 c h1) ((hFs' t').2.1 c h2), fun t c hc => h.imm _ _ ((hFs' t).2.1 c hc), h.lt, fun t t' z p n m new _ _ _ _ h1 => absurd h1 (hk.np _ _ _ _ _ _)⟩, fun t => (hFs' t).2.1⟩
  obtain ⟨v, hv, hR⟩ := (hFs' t).1 x hx
  exact ⟨v, hv, .tree hR⟩

theorem Ev.weaken {c : Code} {g g1 g' : Gst} {e : Exit} (hk : Wk g g1) (h : Ev P N c g1 e g') : Ev P N c g e g' := by
  intro Q a w I Fs hS hN hQ
  obtain ⟨Fs', hS', hsub⟩ := hS.wk hk
  exact h hS' hN fun a' w' hn => hQ _ _ (Next'.trans rfl Hold.refl ⟨Fr.refl _ _, fun _ h => h, fun _ h => .inl h, fun c ⟨t, hc⟩ => .inl ⟨t, hsub t c hc⟩⟩ hn)

theorem EvL.weaken {c : Code} {g g1 g' : Gst} {e : Exit} (hk : Wk g g1) (h : EvL P N c g1 e g') : EvL P N c g e g' := by
  intro Q a w I Fs hS hN hQ
  obtain ⟨Fs', hS', hsub⟩ := hS.wk hk
  exact h hS' hN fun a' w' hn => hQ _ _ (Next'.trans rfl Hold.refl ⟨Fr.refl _ _, fun _ h => h, fun _ h => .inl h, fun c ⟨t, hc⟩ => .inl ⟨t, hsub t c hc⟩⟩ hn)

theorem Ev.weakenOut {c : Code} {g g1 g' : Gst} {e : Exit} (h : Ev P N c g e g1) (hk : Wk g1 g') : Ev P N c g e g' := by
  intro Q a w I Fs hS hN hQ
  refine h hS hN fun a' w' hn => ?_
  obtain ⟨e1, e2, I', Fs', hS', hst⟩ := hn
  obtain ⟨Fs2, hS2, hsub⟩ := hS'.wk hk
  exact hQ _ _ ⟨e1, e2, I', Fs2, hS2, hst.trans ⟨Fr.refl _ _, fun _ h => h, fun _ h => .inl h, fun c ⟨t, hc⟩ => .inl ⟨t, hsub t c hc⟩⟩⟩
end
end Go.Own
