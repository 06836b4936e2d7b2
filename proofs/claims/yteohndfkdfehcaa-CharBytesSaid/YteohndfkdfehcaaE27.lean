import Derived.Test.YteohndfkdfehcaaE26
namespace Go.Own
open Go

section
variable {P : Program} {N : Rm}

/-- Code that begins in the state 'g' leaves as 'Φ' says. -/
def W (P : Program) (N : Rm) (c : Code) (g : Gst) (Φ : Exit → Gst → Prop) : Prop :=
  ∀ ⦃Q : Exit → Act → World → Prop⦄ ⦃a : Act⦄ ⦃w : World⦄ ⦃I : BSet⦄ ⦃Fs : Nat → BSet⦄, SR w I a.tmps g Fs → a.tmps.size = N.size → (∀ e g' a' w', Φ e g' → Next' N a w I Fs g' a' w' → Q e a' w') → c.wp P Q a w

def thenP (Ψ : Gst → Prop) (Φ : Exit → Gst → Prop) : Exit → Gst → Prop
  | .normal, g => Ψ g
  | e, g => Φ e g

def inB (id : Nat) (Φ : Exit → Gst → Prop) : Exit → Gst → Prop
  | .exit k, g => if k = id then Φ .normal g else Φ (.exit k) g
  | e, g => Φ e g

theorem Next'.refl {a : Act} {w : World} {I : BSet} {g : Gst} {Fs : Nat → BSet} (h : SR w I a.tmps g Fs) : Next' N a w I Fs g a w := ⟨rfl, Hold.refl, _, _, h, St.refl _ _ _⟩

theorem Ev.w {c : Code} {g g' : Gst} {e : Exit} {Φ : Exit → Gst → Prop} (h : Ev P N c g e g') (hΦ : Φ e g') : W P N c g Φ :=
  fun _ _ _ _ _ hS hN hQ => h hS hN fun a' w' hn => hQ _ _ a' w' hΦ hn

theorem W.mono {c : Code} {g : Gst} {Φ Φ' : Exit → Gst → Prop} (h : W P N c g Φ) (hΦ : ∀ e g', Φ e g' → Φ' e g') : W P N c g Φ' :=
  fun _ _ _ _ _ hS hN hQ => h hS hN fun _ _ a' w' h1 hn => hQ _ _ a' w' (hΦ _ _ h1) hn

theorem W.skip {g : Gst} {Φ : Exit → Gst → Prop} (h : Φ .normal g) : W P N .skip g Φ := Ev.skip.w h
theorem W.ret {g : Gst} {Φ : Exit → Gst → Prop} (h : Φ .ret g) : W P N .ret g Φ := Ev.ret.w h
theorem W.exit {g : Gst} {id : Nat} {Φ : Exit → Gst → Prop} (h : Φ (.exit id) g) : W P N (.exit id) g Φ := Ev.exit.w h

theorem W.seq {x y : Code} {g : Gst} {Φ : Exit → Gst → Prop} (h : W P N x g (thenP (fun g1 => W P N y g1 Φ) Φ)) : W P N (.seq x y) g Φ := by
  intro Q a w I Fs hS hN hQ
  refine wp_seq (h hS hN fun e g1 a1 w1 h1 hn => ?_)
  cases e with
  | normal =>
    obtain ⟨e1, e2, I', Fs', hS', hst⟩ := hn
    exact h1 hS' (e2.1.trans hN) fun e2' g2 a2 w2 h2 hn2 => hQ _ _ _ _ h2 (Next'.trans e1 e2 hst hn2)
  | _ => exact hQ _ _ _ _ h1 hn

theorem W.cond {c : Operand} {x y : Code} {g : Gst} {Φ : Exit → Gst → Prop} {b : Bool} (hc : opd g c = some (.lit (.bool b))) (h : W P N (if b then x else y) g Φ) : W P N (.cond c x y) g Φ :=
  fun _ _ _ _ _ hS hN hQ => wp_cond (t := b) (opd_sound hS hc rfl).inv_lit.1 (h hS hN hQ)
theorem W.condT {c : Operand} {x y : Code} {g : Gst} {Φ : Exit → Gst → Prop} (hc : opd g c = some (.lit (.bool true))) (h : W P N x g Φ) : W P N (.cond c x y) g Φ := W.cond hc h
theorem W.condF {c : Operand} {x y : Code} {g : Gst} {Φ : Exit → Gst → Prop} (hc : opd g c = some (.lit (.bool false))) (h : W P N y g Φ) : W P N (.cond c x y) g Φ := W.cond hc h

theorem W.block {id : Nat} {c : Code} {g : Gst} {Φ : Exit → Gst → Prop} (h : W P N c g (inB id Φ)) : W P N (.block id c) g Φ := by
  intro Q a w I Fs hS hN hQ
  refine wp_block (h hS hN fun e g1 a1 w1 h1 hn => ?_)
  cases e with
  | exit k =>
    have h2 : if k = id then Φ .normal g1 else Φ (.exit k) g1 := h1
    simp only [Exit.inBlock]
    by_cases hk : k = id
    · rw [if_pos hk] at h2 ⊢
      exact hQ _ _ _ _ h2 hn
    · rw [if_neg hk] at h2 ⊢
      exact hQ _ _ _ _ h2 hn
  | _ => exact hQ _ _ _ _ h1 hn

/-- A loop's head. -/
def WL (P : Program) (N : Rm) (c : Code) (g : Gst) (Φ : Exit → Gst → Prop) : Prop :=
  ∀ ⦃Q : Exit → Act → World → Prop⦄ ⦃a : Act⦄ ⦃w : World⦄ ⦃I : BSet⦄ ⦃Fs : Nat → BSet⦄, SR w I a.tmps g Fs → a.tmps.size = N.size → (∀ e g' a' w', Φ e g' → Next' N a w I Fs g' a' w' → Q e a' w') → LoopWp P c Q a w

theorem W.loop {c : Code} {g : Gst} {Φ : Exit → Gst → Prop} (h : WL P N c g Φ) : W P N (.loop c) g Φ := by
  intro Q a w I Fs hS hN hQ b k cs
  obtain ⟨e, a', w', hq, harr⟩ := h hS hN hQ b k cs
  exact ⟨e, a', w', hq, .of_steps (.one step_loop) harr⟩

theorem WL.step {c : Code} {g : Gst} {Φ : Exit → Gst → Prop} (h : W P N c g (thenP (fun g1 => WL P N c g1 Φ) Φ)) : WL P N c g Φ := by
  intro Q a w I Fs hS hN hQ
  refine loopWp_of (h hS hN fun e g1 a1 w1 h1 hn => ?_)
  cases e with
  | normal =>
    obtain ⟨e1, e2, I', Fs', hS', hst⟩ := hn
    exact h1 hS' (e2.1.trans hN) fun e2' g2 a2 w2 h2 hn2 => hQ _ _ _ _ h2 (Next'.trans e1 e2 hst hn2)
  | _ => exact hQ _ _ _ _ h1 hn

theorem W.weaken {c : Code} {g g1 : Gst} {Φ : Exit → Gst → Prop} (hk : Wk g g1) (h : W P N c g1 Φ) : W P N c g Φ := by
  intro Q a w I Fs hS hN hQ
  obtain ⟨Fs', hS', hsub⟩ := hS.wk hk
  exact h hS' hN fun e g' a' w' h1 hn => hQ _ _ _ _ h1 (Next'.trans rfl Hold.refl ⟨Fr.refl _ _, fun _ h => h, fun _ h => .inl h, fun c ⟨t, hc⟩ => .inl ⟨t, hsub t c hc⟩⟩ hn)

theorem WL.weaken {c : Code} {g g1 : Gst} {Φ : Exit → Gst → Prop} (hk : Wk g g1) (h : WL P N c g1 Φ) : WL P N c g Φ := by
  intro Q a w I Fs hS hN hQ
  obtain ⟨Fs', hS', hsub⟩ := hS.wk hk
  exact h hS' hN fun e g' a' w' h1 hn => hQ _ _ _ _ h1 (Next'.trans rfl Hold.refl ⟨Fr.refl _ _, fun _ h => h, fun _ h => .inl h, fun c ⟨t, hc⟩ => .inl ⟨t, hsub t c hc⟩⟩ hn)

/-- A state at the end may be said with less. -/
theorem W.out {c : Code} {g : Gst} {Φ Φ' : Exit → Gst → Prop} (h : W P N c g Φ) (hΦ : ∀ e g', Φ e g' → ∃ g2, Wk g' g2 ∧ Φ' e g2) : W P N c g Φ' := by
  intro Q a w I Fs hS hN hQ
  refine h hS hN fun e g' a' w' h1 hn => ?_
  obtain ⟨g2, hk, h2⟩ := hΦ e g' h1
  obtain ⟨e1, e2, I', Fs', hS', hst⟩ := hn
  obtain ⟨Fs2, hS2, hsub⟩ := hS'.wk hk
  exact hQ _ _ _ _ h2 ⟨e1, e2, I', Fs2, hS2, hst.trans ⟨Fr.refl _ _, fun _ h => h, fun _ h => .inl h, fun c ⟨t, hc⟩ => .inl ⟨t, hsub t c hc⟩⟩⟩

/-- Operations, and what is asked behind them. -/
def RunK (P : Program) (N : Rm) (ops : Array Oper) (is : List Nat) (g : Gst) (K : Gst → Prop) : Prop := ∃ g', Run P N ops is g g' ∧ K g'

theorem W.region {id : Nat} {ops : Array Oper} {g : Gst} {Φ : Exit → Gst → Prop} (h : RunK P N ops (List.range ops.size) g (Φ .normal)) : W P N (.region id ops false) g Φ := by
  obtain ⟨g', hr, hΦ⟩ := h
  exact (Ev.region hr).w hΦ

/-- A function's contract, its end said by 'Φ'. -/
theorem Con.of_w {f : FuncId} {fn : Func} {c : Code} {args : List AV} {outs : List (Option AV)} {res : AV} {N : Rm} (hf : P.funcs[f]? = some fn) (hb : fn.body = some c) (hN : fn.ntmps = N.size) (ha : args.length ≤ N.size)
    (hlen : outs.length = args.length) (hw : W P N c (argG args) fun e g' => (e = .normal ∨ e = .ret) ∧ Leaves P N fn.results.toList g' args.length outs res) : Con P f args outs res := by
  refine ⟨hlen, fun w I vs Fs hvl hS => calls_of_wp hf hb ?_⟩
  have hsz : ({ tmps := vs.toArray ++ Array.replicate (fn.ntmps - vs.toArray.size) undef, defers := [] } : Act).tmps.size = N.size := by
    simp; omega
  have hget : ∀ t, t < vs.length → (vs.toArray ++ Array.replicate (fn.ntmps - vs.toArray.size) undef)[t]? = vs.toArray[t]? := by
    intro t ht
    rw [Array.getElem?_append_left (by simpa using ht)]
  refine hw (hS.more (T' := vs.toArray ++ Array.replicate (fn.ntmps - vs.toArray.size) undef) fun t ht => hget t ?_) hsz fun e g' a' w' ⟨he, ho⟩ hn => ?_
  · unfold argG at ht
    rw [hvl]
    rcases Nat.lt_or_ge t args.length with h | h
    · exact h
    · exact absurd (List.getElem?_eq_none h) ht
  obtain ⟨hd, hold, I', Fs', hS', hst⟩ := hn
  obtain ⟨ys, xs, g1, hrv, ht, rfl, hout⟩ := ho.ex
  obtain ⟨us, hul, hrun, hRu⟩ := hrv.run hS'
  have hyl : ys.length = us.length := by rw [← hrv.length, hul]
  obtain ⟨Fs1, Hs, hS1, hH1, hall⟩ := ht.sound hS'.toC (⟨hyl, fun k x u hx hu => (hRu k x u hx hu).frame (fun _ _ => rfl) (fun _ h => h) (fun _ _ h => h.1) fun _ _ => rfl, fun _ _ _ _ _ h => h.elim, fun _ _ _ _ h => h.elim, fun _ _ _ h => h.elim⟩ : Hand w' I' (RefAt w' a'.tmps) Fs' ys us fun _ => E0)
  have hsub : ∀ c, AllB Fs1 xs.length Hs c → ∃ t, Fs' t c := by
    intro c hc
    rcases hall c hc with h | ⟨_, _, h⟩
    · exact h
    · exact h.elim
  have hfin : ∃ Fs2, SR w' I' (vs ++ [resV us]).toArray (outG outs (resAV xs)) Fs2 ∧ ∀ t c, Fs2 t c → ∃ t, Fs' t c := by
    classical
    refine ⟨fun t => if t = outs.length then (fun c => ∃ k, k < xs.length ∧ Hs k c) else if ∃ x, outs[t]? = some (some x) then Fs1 t else E0, ⟨fun t x hx => ?_, fun t ht' c hc => ?_, fun t t' c h1 h2 => ?_, fun t c hc => ?_, hS'.lt, fun t t' z p n m new z' n' m' new' h1 h2 => ?_⟩, fun t c hc => ?_⟩
    · unfold outG at hx
      by_cases h0 : t = outs.length
      · rw [if_pos h0] at hx
        cases hx
        subst h0
        refine ⟨resV us, ?_, .tree ?_⟩
        · rw [ho.len, ← hvl]; simp
        · simpa using (hH1.resAV ht.nrOut _).1
      · rw [if_neg h0] at hx
        have hx' : outs[t]? = some (some x) := by
          cases hh : outs[t]? with
          | none => rw [hh] at hx; cases hx
          | some y => rw [hh] at hx; simpa using hx
        obtain ⟨h1, h2, h3⟩ := hout t x hx'
        have htl : t < vs.length := by
          have := (List.getElem?_eq_some_iff.1 hx').1
          rw [hvl, ← ho.len]; exact this
        obtain ⟨v, hv, hR⟩ := hS1.rel t x h1
        refine ⟨v, ?_, ?_⟩
        · rw [hold.2 t h3] at hv
          simp only at hv
          rw [hget t htl] at hv
          simp only [List.getElem?_toArray] at hv ⊢
          rw [List.getElem?_append_left htl]; exact hv
        · simp only [h0, if_false]
          rw [if_pos ⟨x, hx'⟩]
          exact .tree ((hR.isTree (by rintro z p n m new rfl; cases h2)).nr h2)
    · unfold outG at ht'
      by_cases h0 : t = outs.length
      · rw [if_pos h0] at ht'; cases ht'
      · rw [if_neg h0] at ht'
        simp only [h0, if_false] at hc
        rw [if_neg] at hc
        · exact hc
        · rintro ⟨x, hx⟩
          rw [hx] at ht'; cases ht'
    · by_cases h0 : t = outs.length <;> by_cases h0' : t' = outs.length <;> simp only [h0, h0', if_true, if_false] at h1 h2
      · rw [h0, h0']
      · split at h2
        · obtain ⟨k, hk, hc⟩ := h1
          exact absurd h2 (hH1.off k t' c hk hc)
        · exact h2.elim
      · split at h1
        · obtain ⟨k, hk, hc⟩ := h2
          exact absurd h1 (hH1.off k t c hk hc)
        · exact h1.elim
      · split at h1
        · split at h2
          · exact hS1.dis _ _ _ h1 h2
          · exact h2.elim
        · exact h1.elim
    · by_cases h0 : t = outs.length <;> simp only [h0, if_true, if_false] at hc
      · obtain ⟨k, hk, hc⟩ := hc
        exact hH1.imm k c hk hc
      · split at hc
        · exact hS1.imm _ _ hc
        · exact hc.elim
    · have key : ∀ t x, outG outs (resAV xs) t = some x → NR x := by
        intro t x hx
        unfold outG at hx
        split at hx
        · cases hx; exact (hH1.resAV ht.nrOut (fun _ _ => False)).2
        · cases hh : outs[t]? with
          | none => rw [hh] at hx; cases hx
          | some y => rw [hh] at hx; exact (hout t x (by rw [hh]; simpa using hx)).2.1
      have := key t _ h1
      cases this
    · by_cases h0 : t = outs.length <;> simp only [h0, if_true, if_false] at hc
      · obtain ⟨k, hk, hc⟩ := hc
        exact hsub c (.inr ⟨k, hk, hc⟩)
      · split at hc
        · exact hsub c (.inl ⟨t, hc⟩)
        · exact hc.elim
  obtain ⟨Fs2, hS2, hsub2⟩ := hfin
  have hpost : a'.defers = [] ∧ ∃ v, (results fn a'.tmps).run P w' = .ok v w' ∧ ∃ v' I' Fs', Ending.returned v = .returned v' ∧ SR w' I' (vs ++ [v']).toArray (outG outs (resAV xs)) Fs' ∧ St w I (fun c => ∃ t, Fs t c) w' I' (fun c => ∃ t, Fs' t c) :=
    ⟨hd, resV us, run_results hul hrun, resV us, I', Fs2, rfl, hS2, hst.trans ⟨Fr.refl _ _, fun _ h => h, fun _ h => .inl h, fun c ⟨t, hc⟩ => .inl (hsub2 t c hc)⟩⟩
  rcases he with rfl | rfl <;> exact hpost
end
end Go.Own
