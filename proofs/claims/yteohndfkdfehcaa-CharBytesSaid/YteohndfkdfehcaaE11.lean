import Derived.Test.YteohndfkdfehcaaE10
namespace Go.Own
open Go

section
variable {w w' : World} {I : BSet} {T : Array Value} {g : Gst} {Fs : Nat → BSet}

theorem SR.slotVal (h : SR w I T g Fs) {t : Nat} {x : AV} (hx : g t = some x) : ∃ v, T[t]? = some v ∧ valAt w T ⟨t, []⟩ = some v ∧ RT w I (RG w T g) x v (Fs t) := by
  obtain ⟨v, hv, hR⟩ := h.rel t x hx
  exact ⟨v, hv, by simp [valAt, hv, walk], hR⟩

/-- An append: the state stands in the world behind it. -/
theorem SR.app (h : SR w I T g Fs) {z n m : Nat} {p : Place} {bv v' : Value} {e e2 : TypeId} {us news : List Value} (hbv : RG w T g (.pend z p n 0 []) bv)
    (hno : ∀ t z' n' m' new', g t ≠ some (.pend z' p n' m' new')) (A : AppRun w w' bv v' e e2 z n m us news) : SR w' I T g Fs ∧ ∀ r v, RG w T g r v → RG w' T g r v := by
  cases hbb : bv.ownBlock with
  | none =>
    have same : ∀ c, c < w.heap.size → w'.heap[c]? = w.heap[c]? := fun c hc => A.fr.block c hc (by rw [hbb]; simp)
    exact ⟨h.world (fun t c hc => same c (h.ltF t c hc)) (fun c hc => same c (h.lt c hc)) A.fr.size, fun r v hr => h.ref_same (fun _ _ => rfl) (fun t c hc => same c (h.ltF t c hc)) (fun _ _ h => h) hr⟩
  | some b =>
    have s : Spare w w' b (n * z) := by
      refine ⟨fun c hc hne => A.fr.block c hc (by rw [hbb]; simpa using Ne.symm hne), ?_⟩
      obtain ⟨arr, arr', h1, h2, h3, h4⟩ := A.sp b hbb
      exact ⟨arr, arr', e, h1, h2, h3, h4⟩
    obtain ⟨t0, ht0⟩ := h.base_block hbv b hbb
    have hI : ∀ c, I c → c < w.heap.size ∧ c ≠ b := fun c hc => ⟨h.lt c hc, fun e => h.imm t0 b ht0 (e ▸ hc)⟩
    obtain ⟨⟨ba, bcap, hbval, rfl⟩, hok⟩ := hbv
    -- the home of the block
    have home : ∃ N : Place → Prop, (∀ q z' n' cs' vq, atP g q = some (.own z' n' cs') → valAt w T q = some vq → vq.ownBlock = some b → N q) ∧
        (∀ q, N q → ∀ t z' n' m' new', g t = some (.pend z' q n' m' new') → t = p.root ∧ p.path = []) ∧
        (∀ t z' q' n' m' new', Fs t b → g t = some (.pend z' q' n' m' new') → t = p.root ∧ p.path = []) ∧
        (∀ z' q' n' m' new', p.path = [] → g p.root = some (.pend z' q' n' m' new') → z' = z ∧ n = n' + m') ∧
        (∀ t x v, Fs t b → g t = some x → T[t]? = some v → R w I (RG w T g) x v (Fs t) → ∃ q z' n' cs' vy, x.at q = some (.own z' n' cs') ∧ walk w v q = some vy ∧ vy.ownBlock = some b ∧ n' * z' ≤ n * z) := by
      rcases hok with ⟨cs, hp⟩ | ⟨hp0, q1, n1, m1, new1, cs, hp, hn, hq1⟩
      · -- the base is a row of a tree
        obtain ⟨vp, Fp, hvp, hRp, hFp⟩ := h.part hp (by simp)
        rw [hbval] at hvp
        cases hvp
        have hroot : t0 = p.root := h.dis _ _ _ ht0 (hFp b (hRp.own_block b hbb))
        obtain ⟨x0, hx0⟩ : ∃ x0, g p.root = some x0 := by
          unfold atP at hp
          cases hx : g p.root with
          | none => rw [hx] at hp; cases hp
          | some x => exact ⟨x, rfl⟩
        have hat0 : x0.at p.path = some (.own z n cs) := by simpa [atP, hx0] using hp
        have notPend : ∀ z' q' n' m' new', g p.root ≠ some (.pend z' q' n' m' new') := by
          intro z' q' n' m' new' hh
          rw [hx0] at hh
          cases hh
          have := (AV.at_pend hat0).2
          simp at this
        obtain ⟨v0, hv0, hR0⟩ := h.rel _ _ hx0
        have hR0' := hR0.isTree (fun z' q' n' m' new' e => notPend z' q' n' m' new' (by rw [hx0, e]))
        have hw0 : walk w v0 p.path = some (.slice ba n bcap) := by simpa [valAt, hv0] using hbval
        refine ⟨fun q => q = p, ?_, ?_, ?_, ?_, ?_⟩
        · intro q z' n' cs' vq hq hvq hbq
          obtain ⟨vq', Fq, hvq', hRq, hFq⟩ := h.part hq (by simp)
          rw [hvq] at hvq'
          cases hvq'
          have hr : q.root = p.root := (h.dis _ _ _ (hFq b (hRq.own_block b hbq)) ht0).trans hroot
          have hatq : x0.at q.path = some (.own z' n' cs') := by simpa [atP, hr, hx0] using hq
          have hwq : walk w v0 q.path = some vq := by simpa [valAt, hr, hv0] using hvq
          have := R.node_inj q.path p.path hR0' hatq hat0 hwq hw0 hbq hbb
          cases q; cases p; simp_all
        · rintro q rfl t z' n' m' new' hh; exact absurd hh (hno t z' n' m' new')
        · intro t z' q' n' m' new' htb hh
          have : t = p.root := (h.dis _ _ _ htb ht0).trans hroot
          rw [this] at hh
          exact absurd hh (notPend _ _ _ _ _)
        · intro z' q' n' m' new' _ hh; exact absurd hh (notPend _ _ _ _ _)
        · intro t x v htb hx hv hR
          have : t = p.root := (h.dis _ _ _ htb ht0).trans hroot
          subst this
          rw [hx0] at hx; cases hx
          rw [hv0] at hv; cases hv
          exact ⟨_, _, _, _, _, hat0, hw0, hbb, Nat.le_refl _⟩
      · -- the base is behind an append itself
        obtain ⟨v0, hv0, hva0, hR0⟩ := h.slotVal hp
        have hv0' : v0 = .slice ba n bcap := by
          have : (⟨p.root, []⟩ : Place) = p := by cases p; simp_all
          rw [this, hbval] at hva0
          exact (Option.some.inj hva0).symm
        subst hv0'
        obtain ⟨bv1, e1, e12, us1, news1, hR0⟩ := hR0.isPend
        by_cases hb1 : bv1.ownBlock = some b
        · obtain ⟨⟨a1, cap1, hval1, rfl⟩, _⟩ := hR0.hbv
          obtain ⟨vq, Fq, hvq, hRq, hFq⟩ := h.part hq1 (by simp)
          rw [hval1] at hvq
          cases hvq
          have hroot : t0 = q1.root := h.dis _ _ _ ht0 (hFq b (hRq.own_block b hb1))
          obtain ⟨x0, hx0⟩ : ∃ x0, g q1.root = some x0 := by
            unfold atP at hq1
            cases hx : g q1.root with
            | none => rw [hx] at hq1; cases hq1
            | some x => exact ⟨x, rfl⟩
          have hat0 : x0.at q1.path = some (.own z n1 cs) := by simpa [atP, hx0] using hq1
          have notPend : ∀ z' q' n' m' new', g q1.root ≠ some (.pend z' q' n' m' new') := by
            intro z' q' n' m' new' hh
            rw [hx0] at hh
            cases hh
            have := (AV.at_pend hat0).2
            simp at this
          obtain ⟨v1, hv1, hR1⟩ := h.rel _ _ hx0
          have hR1' := hR1.isTree (fun z' q' n' m' new' e => notPend z' q' n' m' new' (by rw [hx0, e]))
          have hw0 : walk w v1 q1.path = some (.slice a1 n1 cap1) := by simpa [valAt, hv1] using hval1
          refine ⟨fun q => q = q1, ?_, ?_, ?_, ?_, ?_⟩
          · intro q z' n' cs' vq hq hvq hbq
            obtain ⟨vq', Fq', hvq', hRq', hFq'⟩ := h.part hq (by simp)
            rw [hvq] at hvq'
            cases hvq'
            have hr : q.root = q1.root := (h.dis _ _ _ (hFq' b (hRq'.own_block b hbq)) ht0).trans hroot
            have hatq : x0.at q.path = some (.own z' n' cs') := by simpa [atP, hr, hx0] using hq
            have hwq : walk w v1 q.path = some vq := by simpa [valAt, hr, hv1] using hvq
            have := R.node_inj q.path q1.path hR1' hatq hat0 hwq hw0 hbq hb1
            cases q; cases q1; simp_all
          · rintro q rfl t z' n' m' new' hh; exact ⟨h.pok _ _ _ _ _ _ _ _ _ _ _ hh hp, hp0⟩
          · intro t z' q' n' m' new' htb hh
            have : t = q1.root := (h.dis _ _ _ htb ht0).trans hroot
            rw [this] at hh
            exact absurd hh (notPend _ _ _ _ _)
          · intro z' q' n' m' new' _ hh
            rw [hp] at hh; cases hh; exact ⟨rfl, hn⟩
          · intro t x v htb hx hv hR
            have : t = q1.root := (h.dis _ _ _ htb ht0).trans hroot
            subst this
            rw [hx0] at hx; cases hx
            rw [hv1] at hv; cases hv
            exact ⟨_, _, _, _, _, hat0, hw0, hb1, Nat.mul_le_mul_right _ (by omega)⟩
        · have hF0 : Fs p.root b := (hR0.hF b).2 ⟨hbb, hb1⟩
          have hroot : t0 = p.root := h.dis _ _ _ ht0 hF0
          refine ⟨fun _ => False, ?_, fun _ h => h.elim, ?_, ?_, ?_⟩
          · intro q z' n' cs' vq hq hvq hbq
            obtain ⟨vq', Fq', hvq', hRq', hFq'⟩ := h.part hq (by simp)
            rw [hvq] at hvq'
            cases hvq'
            have hr : q.root = p.root := h.dis _ _ _ (hFq' b (hRq'.own_block b hbq)) hF0
            unfold atP at hq
            rw [hr, hp] at hq
            have := (AV.at_pend hq).2
            simp at this
          · intro t z' q' n' m' new' htb _; exact ⟨h.dis _ _ _ htb hF0, hp0⟩
          · intro z' q' n' m' new' _ hh
            rw [hp] at hh; cases hh; exact ⟨rfl, hn⟩
          · intro t x v htb hx hv hR
            have : t = p.root := h.dis _ _ _ htb hF0
            subst this
            rw [hp] at hx; cases hx
            exact hR.notPend.elim
    obtain ⟨N, hN1, hN2, hN3, hN4, hN5⟩ := home
    -- rows of pends
    have pends : ∀ t z' q' n' m' new' v bv' e' e2' us' news', g t = some (.pend z' q' n' m' new') → T[t]? = some v → RPend w I (RG w T g) z' q' n' m' new' v (Fs t) bv' e' e2' us' news' →
        (v.ownBlock = some b → (n' + m') * z' ≤ n * z) ∧ (bv'.ownBlock = some b → n' * z' ≤ n * z) := by
      intro t z' q' n' m' new' v bv' e' e2' us' news' hg hv hR
      by_cases ht : t = p.root ∧ p.path = []
      · obtain ⟨rfl, hp0⟩ := ht
        obtain ⟨rfl, rfl⟩ := hN4 _ _ _ _ _ hp0 hg
        exact ⟨fun _ => Nat.le_refl _, fun _ => Nat.mul_le_mul_right _ (by omega)⟩
      · have hbase : bv'.ownBlock ≠ some b := by
          intro hb'
          obtain ⟨⟨a2, cap2, hval2, rfl⟩, hok2⟩ := hR.hbv
          rcases hok2 with ⟨cs2, h2⟩ | ⟨h0, q3, n3, m3, new3, cs3, h2, h3, h4⟩
          · exact ht (hN2 q' (hN1 q' _ _ _ _ h2 hval2 hb') t _ _ _ _ hg)
          · obtain ⟨v2, hv2, hva2, hR2⟩ := h.slotVal h2
            have hq' : (⟨q'.root, []⟩ : Place) = q' := by cases q'; simp_all
            rw [hq', hval2] at hva2
            cases hva2
            have hroot2 : q'.root = p.root ∧ p.path = [] → False := by
              rintro ⟨hr, hp0⟩
              have : q' = p := by cases q'; cases p; simp_all
              exact hno t z' n' m' new' (this ▸ hg)
            obtain ⟨bv3, e3, e32, us3, news3, hR2⟩ := hR2.isPend
            by_cases hb3 : bv3.ownBlock = some b
            · obtain ⟨⟨a4, cap4, hval4, rfl⟩, _⟩ := hR2.hbv
              exact hroot2 (hN2 q3 (hN1 q3 _ _ _ _ h4 hval4 hb3) _ _ _ _ _ h2)
            · exact hroot2 (hN3 _ _ _ _ _ _ ((hR2.hF b).2 ⟨hb', hb3⟩) h2)
        refine ⟨fun hvb => ?_, fun hb' => absurd hb' hbase⟩
        exact absurd (hN3 _ _ _ _ _ _ ((hR.hF b).2 ⟨hvb, hbase⟩) hg) ht
    -- trees
    have hlt := h.ltF
    have trees : ∀ t x v (ρ' : AV → Value → Prop), (∀ x v, RG w T g x v → ρ' x v) → g t = some x → T[t]? = some v → R w I (RG w T g) x v (Fs t) → R w' I ρ' x v (Fs t) ∧ ∀ r y, x.at r = some y → walk w' v r = walk w v r := by
      intro t x v ρ' hρ hx hv hR
      by_cases htb : Fs t b
      · obtain ⟨q, z', n', cs', vy, h1, h2, h3, h4⟩ := hN5 t x v htb hx hv hR
        exact hR.spare s hI hρ h1 h2 h3 h4
      · have same : ∀ c, Fs t c → w'.heap[c]? = w.heap[c]? := fun c hc => s.other c (hlt t c hc) fun e => htb (e ▸ hc)
        exact ⟨hR.frame (fun c hc => s.other c (hI c hc).1 (hI c hc).2) (fun _ h => h) hρ same, fun r y hr => R.walk_frame r hR hr same⟩
    have val : ∀ q y, atP g q = some y → valAt w' T q = valAt w T q := by
      intro q y hq
      unfold atP at hq
      cases hx : g q.root with
      | none => rw [hx] at hq; cases hq
      | some x =>
        rw [hx] at hq
        obtain ⟨v, hv, hR⟩ := h.rel _ _ hx
        cases hR with
        | tree hR => have := (trees _ x v _ (fun _ _ h => h) hx hv hR).2 q.path y hq; simp [valAt, hv, this]
        | pend hR => simp [valAt, hv, (AV.at_pend hq).1, walk]
    have slot : ∀ {q : Place} {x : AV}, q.path = [] → g q.root = some x → valAt w' T q = valAt w T q := by
      intro q x hq hx
      obtain ⟨v, hv, _⟩ := h.rel _ _ hx
      simp [valAt, hq, walk]
    have refs : ∀ r v, RG w T g r v → RG w' T g r v := by
      rintro r v ⟨h1, h2⟩
      refine ⟨?_, h2⟩
      cases r <;> simp only [RefAt, RefOk] at h1 h2 ⊢
      case ptr q k => obtain ⟨y, hy, _⟩ := h2; rw [val q y hy]; exact h1
      case brw z' q n' =>
        rcases h2 with ⟨_, _, h2, _⟩ | ⟨h0, _, _, _, _, h2, _⟩
        · rw [val q _ h2]; exact h1
        · rw [slot h0 h2]; exact h1
      case sub z' q lo n' => obtain ⟨_, _, h2, _⟩ := h2; rw [val q _ h2]; exact h1
      case pend z' q n' m' new' =>
        rcases h2 with ⟨_, h2⟩ | ⟨h0, _, _, _, _, _, h2, _⟩
        · rw [val q _ h2]; exact h1
        · rw [slot h0 h2]; exact h1
    refine ⟨⟨fun t x hx => ?_, h.non, h.dis, h.imm, fun c hc => Nat.lt_of_lt_of_le (h.lt c hc) A.fr.size, h.pok⟩, refs⟩
    obtain ⟨v, hv, hR⟩ := h.rel t x hx
    refine ⟨v, hv, ?_⟩
    cases hR with
    | tree hR => exact .tree (trees t x v _ refs hx hv hR).1
    | @pend z' n' m' q' new' _ bv' e' e2' us' news' _ hR =>
      obtain ⟨p1, p2⟩ := pends t _ _ _ _ _ v bv' e' e2' us' news' hx hv hR
      refine .pend ⟨refs _ _ hR.hbv, s.row hR.hob p2, s.row hR.hov p1, hR.hl, hR.h1, fun k x u hx hu => ?_, hR.hF⟩
      exact (hR.hr k x u hx hu).frame (fun c hc => s.other c (hI c hc).1 (hI c hc).2) (fun _ h => h) refs fun c hc => hc.elim
end
end Go.Own
