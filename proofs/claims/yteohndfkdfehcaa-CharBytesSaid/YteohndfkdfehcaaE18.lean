import Derived.Test.YteohndfkdfehcaaE17
namespace Go.Own
open Go

section
variable {w : World} {I : BSet} {T : Array Value}

/-- A slot is forgotten. -/
theorem SRc.kill {g : Gst} {Fs : Nat → BSet} (h : SRc w I T g Fs) (t : Nat) : ∃ Fs', SRc w I T (setP g ⟨t, []⟩ .dead) Fs' ∧ (∀ c, ¬ Fs' t c) ∧ ∀ s, s ≠ t → Fs' s = Fs s := by
  refine ⟨fun s => if s = t then E0 else Fs s, ⟨fun s x hx => ?_, fun s hs c => ?_, fun s s' c hc hc' => ?_, fun s c hc => ?_, h.lt⟩, fun c => by simp, fun s hs => by simp [hs]⟩
  · by_cases hst : s = t
    · subst hst
      simp only [setP, if_pos] at hx
      cases hg : g s with
      | none => rw [hg] at hx; cases hx
      | some y =>
        rw [hg] at hx
        have : x = .dead := by simpa [AV.setAt] using hx.symm
        subst this
        obtain ⟨v, hv, _⟩ := h.rel s y hg
        exact ⟨v, hv, .tree (.dead (by simp))⟩
    · simp only [setP, if_neg hst] at hx; simpa [hst] using h.rel s x hx
  · by_cases hst : s = t
    · simp [hst]
    · simp only [setP, if_neg hst] at hs; simpa [hst] using h.non s hs c
  · by_cases h1 : s = t <;> by_cases h2 : s' = t <;> simp [h1, h2, E0] at hc hc'
    exact h.dis _ _ _ hc hc'
  · by_cases h1 : s = t <;> simp [h1, E0] at hc
    exact h.imm _ _ hc

theorem R.headOff {ρ : AV → Value → Prop} {Fs : Nat → BSet} {x : AV} {v : Value} {xs : List AV} {vs : List Value} {Hs : Nat → BSet} (h : Hand w I ρ Fs (x :: xs) (v :: vs) Hs) : ∀ c, Hs 0 c → (∀ t, ¬ Fs t c) ∧ ∀ k, k < xs.length → ¬ Hs (k + 1) c := by
  intro c hc
  refine ⟨fun t => h.off 0 t c (by simp) hc, fun k hk hk' => ?_⟩
  have := h.dis 0 (k + 1) c (by simp) (by simpa using hk) hc hk'
  omega

theorem AllB.head {Fs : Nat → BSet} {x : AV} {xs : List AV} {Hs : Nat → BSet} {c : Nat} (h : (∃ t, Fs t c) ∨ Hs 0 c ∨ ∃ k, k < xs.length ∧ Hs (k + 1) c) : AllB Fs (x :: xs).length Hs c := by
  rcases h with h | h | ⟨k, hk, h⟩
  · exact .inl h
  · exact .inr ⟨0, by simp, h⟩
  · exact .inr ⟨k + 1, by simpa using hk, h⟩

theorem setP_other {g : Gst} {p : Place} {y : AV} {q : Place} (h : q.root ≠ p.root) : atP (setP g p y) q = atP g q := by
  simp [atP, setP, h]

theorem setP_slot {g : Gst} {p : Place} {y : AV} {t : Nat} (h : t ≠ p.root) : setP g p y t = g t := by
  simp [setP, h]

theorem ownBlock_slice {a : Option Addr} {n cap n' cap' : Nat} : (Value.slice a n cap).ownBlock = (Value.slice a n' cap').ownBlock := by cases a <;> rfl

/-- A row, cut to its first elements. -/
theorem ownsRow_take {e : TypeId} {z n N : Nat} {a : Option Addr} {cap : Nat} {us : List Value} (h : w.ownsRow 0 e z (.slice a N cap) N us) (hn : n ≤ N) : w.ownsRow 0 e z (.slice a n cap) n (us.take (n * z)) := by
  have hle : n * z ≤ N * z := Nat.mul_le_mul_right _ hn
  obtain ⟨hu, hh⟩ := h
  refine ⟨by rw [List.length_take, hu]; omega, ?_⟩
  rcases hh with ⟨hh, h0⟩ | ⟨b, c2, cur, hh, r1, r2, r3, r4, r5, r6⟩
  · cases hh; exact .inl ⟨by simp; omega, by omega⟩
  · cases hh
    refine .inr ⟨b, cap, cur, rfl, r1, r2, by omega, r4, r5, ?_⟩
    rw [← r6, List.take_take, Nat.min_eq_left hle]

theorem Take.sound {g g' : Gst} {xs xs' : List AV} (h : Take g xs xs' g') : TakeOk w I T g xs xs' g' := by
  induction h with
  | nr h => exact fun {Fs vs Hs} hS hH => ⟨Fs, Hs, hS, hH, fun _ h => h⟩
  | @cons g g' x xs xs' hx _ ih =>
    intro Fs vs Hs hS hH
    cases vs with
    | nil => have := hH.len; simp at this
    | cons v vs =>
      obtain ⟨Fs', Hs', hS', hH', hall⟩ := ih hS hH.tail
      have h0 := R.headOff hH
      have off : ∀ c, Hs 0 c → ¬ AllB Fs' xs'.length Hs' c := by
        intro c hc hb
        rcases hall c hb with ⟨t, h⟩ | ⟨k, hk, h⟩
        · exact (h0 c hc).1 t h
        · exact (h0 c hc).2 k hk h
      refine ⟨Fs', _, hS', hH'.cons (hH.rel 0 x v rfl rfl) (fun k c hk hc h => off c hc (.inr ⟨k, hk, h⟩)) (fun t c hc h => off c hc (.inl ⟨t, h⟩)) (fun c hc => hH.imm 0 c (by simp) hc), ?_⟩
      rintro c (h | ⟨k, hk, h⟩)
      · rcases hall c (.inl h) with h | ⟨j, hj, h⟩
        · exact .inl h
        · exact .inr ⟨j + 1, by simpa using hj, h⟩
      · cases k with
        | zero => exact .inr ⟨0, by simp, h⟩
        | succ k =>
          rcases hall c (.inr ⟨k, by simpa using hk, h⟩) with h | ⟨j, hj, h⟩
          · exact .inl h
          · exact .inr ⟨j + 1, by simpa using hj, h⟩
  | @brw g g1 g' z n N p cs cs' xs xs' hp hn t1 _ ih1 ih2 =>
    intro Fs vs Hs hS hH
    cases vs with
    | nil => have := hH.len; simp at this
    | cons v vs =>
      obtain ⟨vp, Fy, hvp, hRp, hFy, rebuild⟩ := hS.part hp (by simp)
      obtain ⟨a, N', cap, h1, rfl, h3⟩ := (hH.rel 0 _ v rfl rfl).inv_brw
      rw [h1] at hvp
      cases hvp
      obtain ⟨a2, cap2, hsl, _⟩ := hRp.own_slice
      cases hsl
      obtain ⟨Fs1, hS1, hr1, hr2⟩ := rebuild .dead E0 (.dead fun _ h => h) (fun _ h => h.elim) (fun _ h => h.elim) (fun _ _ _ h => h.elim)
      have hFs1 : ∀ t c, Fs1 t c → Fs t c ∧ ¬ Fy c := by
        intro t c hc
        by_cases ht : t = p.root
        · subst ht
          rcases (hr1 c).1 hc with h | h
          · exact h
          · exact h.elim
        · rw [hr2 t ht] at hc
          exact ⟨hc, fun hyc => ht (hS.dis _ _ _ hc (hFy c hyc))⟩
      cases hRp with
      | ref hx => simp [AV.isRef] at hx
      | @own _ _ _ _ e us Fk _ ho hl h1' hr hd hb hF =>
        have hsubl : ∀ k, k < (cs.take (n * z)).length → k < cs.length := fun k hk => by rw [List.length_take] at hk; omega
        have hFk : ∀ k c, k < (cs.take (n * z)).length → Fk k c → Fy c := fun k c hk hc => (hF c).2 (.inr ⟨k, hsubl k hk, hc⟩)
        have hH1 : Hand w I (RefAt w T) Fs1 (cs.take (n * z)) (us.take (n * z)) Fk := by
          refine ⟨by simp [hl], fun k x u hx hu => ?_, fun j k c hj hk => hd j k c (hsubl j hj) (hsubl k hk), fun k t c hk hc hf => (hFs1 t c hf).2 (hFk k c hk hc), fun k c hk hc => hS.imm _ c (hFy c (hFk k c hk hc))⟩
          rw [List.getElem?_take] at hx hu
          split at hx
          · rename_i hkl; rw [if_pos hkl] at hu; exact hr k x u hx hu
          · cases hx
        have hrow := ownsRow_take ho hn
        obtain ⟨Fs', Hs', a1, a2, a3⟩ := Take.node (g1 := setP g p .dead) (Fs := Fs) (B := fun c => (Value.slice a n cap).ownBlock = some c) (H0 := Hs 0) (X := .own z n cs') (v0 := .slice a n cap) hS1 hH1
          (fun c hc => by
            have hyc : Fy c := (hF c).2 (.inl (by rw [← hc]; exact ownBlock_slice))
            exact ⟨⟨_, hFy c hyc⟩, fun t hf => (hFs1 t c hf).2 hyc, fun k hk hk' => hb k c (hsubl k hk) hk' (by rw [← hc]; exact ownBlock_slice), hS.imm _ c (hFy c hyc)⟩)
          (fun c hc => by
            rcases hc with ⟨t, h⟩ | ⟨k, hk, h⟩
            · exact .inl ⟨t, (hFs1 t c h).1⟩
            · exact .inl ⟨_, hFy c (hFk k c hk h)⟩)
          hH.tail (R.headOff hH) ih1 ih2 (fun Hs'' b1 b2 b3 => by
            refine .own hrow (by rw [t1.length]; simp [hl]) (fun k u hu => ?_) b1 b2 (fun k c hk hc h => b3 k c hk hc h) fun c => Iff.rfl
            rw [List.getElem?_take] at hu
            split at hu
            · exact h1' k u hu
            · cases hu)
        exact ⟨Fs', Hs', a1, a2, fun c hc => AllB.head (a3 c hc)⟩
  | @pend g g1 g' z n m t q cs new cs' xs xs' ht hp hq t1 _ ih1 ih2 =>
    intro Fs vs Hs hS hH
    cases vs with
    | nil => have := hH.len; simp at this
    | cons v vs =>
      obtain ⟨a, N', cap, h1, rfl, h3⟩ := (hH.rel 0 _ v rfl rfl).inv_brw
      obtain ⟨v0, hv0, hR0⟩ := hS.rel t _ ht
      simp only [valAt, hv0, walk, Option.some.injEq] at h1
      subst h1
      obtain ⟨bv, e, e2, us, news, hR0⟩ := hR0.isPend
      have hN : N' = n + m := by
        obtain ⟨_, hh⟩ := hR0.hov
        rcases hh with ⟨hh, h0⟩ | ⟨_, _, _, hh, _⟩
        · cases hh; omega
        · cases hh; rfl
      subst hN
      obtain ⟨FsK, hSK, hk1, hk2⟩ := hS.kill t
      have hpK : atP (setP g ⟨t, []⟩ .dead) q = some (.own z n cs) := by rw [setP_other (by simpa using hq)]; exact hp
      obtain ⟨vp, Fy, hvp, hRp, hFy, rebuild⟩ := hSK.part hpK (by simp)
      obtain ⟨a', cap', h4, rfl⟩ := hR0.hbv
      rw [h4] at hvp
      cases hvp
      obtain ⟨Fs1, hS1, hr1, hr2⟩ := rebuild .dead E0 (.dead fun _ h => h) (fun _ h => h.elim) (fun _ h => h.elim) (fun _ _ _ h => h.elim)
      have hFyq : ∀ c, Fy c → Fs q.root c := fun c hc => by have := hFy c hc; rwa [hk2 _ hq] at this
      have hFs1 : ∀ s c, Fs1 s c → Fs s c ∧ ¬ Fy c ∧ s ≠ t := by
        intro s c hc
        have hst : s ≠ t := by
          rintro rfl
          by_cases hsq : s = q.root
          · exact hq hsq.symm
          · rw [hr2 s hsq] at hc; exact hk1 c hc
        by_cases hs : s = q.root
        · subst hs
          rcases (hr1 c).1 hc with h | h
          · exact ⟨by have := h.1; rwa [hk2 _ hq] at this, h.2, hst⟩
          · exact h.elim
        · rw [hr2 s hs, hk2 s hst] at hc
          exact ⟨hc, fun hyc => hs (hS.dis _ _ _ hc (hFyq c hyc)), hst⟩
      cases hRp with
      | ref hx => simp [AV.isRef] at hx
      | @own _ _ _ _ e' us' Fk _ ho hl h1' hr hd hb hF =>
        have := ownsRow_det ho hR0.hob
        subst this
        have hFk : ∀ k c, k < cs.length → Fk k c → Fy c := fun k c hk hc => (hF c).2 (.inr ⟨k, hk, hc⟩)
        have hH1 : Hand w I (RefAt w T) Fs1 (cs ++ new) (us' ++ news) (fun k => if k < cs.length then Fk k else E0) := by
          refine ⟨by simp [hl, hR0.hl], fun k x u hx hu => ?_, fun j k c hj hk hc hc' => ?_, fun k s c hk hc hf => ?_, fun k c hk hc => ?_⟩
          · by_cases hkl : k < cs.length
            · rw [List.getElem?_append_left hkl] at hx
              rw [List.getElem?_append_left (by omega)] at hu
              simpa [hkl] using hr k x u hx hu
            · rw [List.getElem?_append_right (by omega)] at hx
              rw [List.getElem?_append_right (by omega), ← hl] at hu
              simpa [hkl] using hR0.hr _ x u hx hu
          · by_cases hjl : j < cs.length <;> by_cases hkl : k < cs.length <;> simp [hjl, hkl, E0] at hc hc'
            exact hd j k c hjl hkl hc hc'
          · by_cases hkl : k < cs.length <;> simp [hkl, E0] at hc
            exact (hFs1 s c hf).2.1 (hFk k c hkl hc)
          · by_cases hkl : k < cs.length <;> simp [hkl, E0] at hc
            exact hS.imm _ c (hFyq c (hFk k c hkl hc))
        obtain ⟨Fs', Hs', a1, a2, a3⟩ := Take.node (g1 := setP (setP g ⟨t, []⟩ .dead) q .dead) (Fs := Fs) (B := fun c => (Value.slice a (n + m) cap).ownBlock = some c) (H0 := Hs 0) (X := .own z (n + m) cs') (v0 := .slice a (n + m) cap) hS1 hH1
          (fun c hc => by
            by_cases hbc : (Value.slice a' n cap').ownBlock = some c
            · have hyc : Fy c := (hF c).2 (.inl hbc)
              refine ⟨⟨_, hFyq c hyc⟩, fun s hf => (hFs1 s c hf).2.1 hyc, fun k hk hk' => ?_, hS.imm _ c (hFyq c hyc)⟩
              by_cases hkl : k < cs.length <;> simp [hkl, E0] at hk'
              exact hb k c hkl hk' hbc
            · have htc : Fs t c := (hR0.hF c).2 ⟨hc, hbc⟩
              refine ⟨⟨_, htc⟩, fun s hf => (hFs1 s c hf).2.2 (hS.dis _ _ _ (hFs1 s c hf).1 htc), fun k hk hk' => ?_, hS.imm _ c htc⟩
              by_cases hkl : k < cs.length <;> simp [hkl, E0] at hk'
              exact hq (hS.dis _ _ _ (hFyq c (hFk k c hkl hk')) htc))
          (fun c hc => by
            rcases hc with ⟨s, h⟩ | ⟨k, hk, h⟩
            · exact .inl ⟨s, (hFs1 s c h).1⟩
            · by_cases hkl : k < cs.length <;> simp [hkl, E0] at h
              exact .inl ⟨_, hFyq c (hFk k c hkl h)⟩)
          hH.tail (R.headOff hH) ih1 ih2 (fun Hs'' b1 b2 b3 => by
            refine .own hR0.hov (by rw [t1.length]; simp [hl, hR0.hl]) (fun k u hu => ?_) b1 b2 (fun k c hk hc h => b3 k c hk hc h) fun c => Iff.rfl
            by_cases hkl : k < us'.length
            · rw [List.getElem?_append_left hkl] at hu; exact h1' k u hu
            · rw [List.getElem?_append_right (by omega)] at hu; exact hR0.h1 _ u hu)
        exact ⟨Fs', Hs', a1, a2, fun c hc => AllB.head (a3 c hc)⟩
  | @pend2 g g1 g' z n m t n2 m2 t2 q cs new new2 cs' xs xs' ht ht2 hn hp hq hq2 htt t1 _ ih1 ih2 =>
    subst hn
    intro Fs vs Hs hS hH
    cases vs with
    | nil => have := hH.len; simp at this
    | cons v vs =>
      obtain ⟨a, N', cap, h1, rfl, h3⟩ := (hH.rel 0 _ v rfl rfl).inv_brw
      obtain ⟨v0, hv0, hR0⟩ := hS.rel t _ ht
      simp only [valAt, hv0, walk, Option.some.injEq] at h1
      subst h1
      obtain ⟨bv, e, e2, us, news, hR0⟩ := hR0.isPend
      have hN : N' = n2 + m2 + m := by
        obtain ⟨_, hh⟩ := hR0.hov
        rcases hh with ⟨hh, h0⟩ | ⟨_, _, _, hh, _⟩
        · cases hh; omega
        · cases hh; rfl
      subst hN
      obtain ⟨v2, hv2, hR2⟩ := hS.rel t2 _ ht2
      obtain ⟨bv2, e', e2', us2, news2, hR2⟩ := hR2.isPend
      have hbv : bv = v2 := by
        obtain ⟨a1, cap1, h5, rfl⟩ := hR0.hbv
        simp only [valAt, hv2, walk, Option.some.injEq] at h5
        exact h5.symm
      subst hbv
      have hus : us = us2 ++ news2 := ownsRow_det hR0.hob hR2.hov
      subst hus
      obtain ⟨FsK1, hSK1, hk11, hk12⟩ := hS.kill t
      obtain ⟨FsK, hSK, hk1, hk2⟩ := hSK1.kill t2
      have hpK : atP (setP (setP g ⟨t, []⟩ .dead) ⟨t2, []⟩ .dead) q = some (.own z n2 cs) := by rw [setP_other (by simpa using hq2), setP_other (by simpa using hq)]; exact hp
      obtain ⟨vp, Fy, hvp, hRp, hFy, rebuild⟩ := hSK.part hpK (by simp)
      obtain ⟨a', cap', h4, rfl⟩ := hR2.hbv
      rw [h4] at hvp
      cases hvp
      obtain ⟨Fs1, hS1, hr1, hr2⟩ := rebuild .dead E0 (.dead fun _ h => h) (fun _ h => h.elim) (fun _ h => h.elim) (fun _ _ _ h => h.elim)
      have hFyq : ∀ c, Fy c → Fs q.root c := fun c hc => by have := hFy c hc; rwa [hk2 _ hq2, hk12 _ hq] at this
      have hFs1 : ∀ s c, Fs1 s c → Fs s c ∧ ¬ Fy c ∧ s ≠ t ∧ s ≠ t2 := by
        intro s c hc
        have hst2 : s ≠ t2 := by
          rintro rfl
          by_cases hsq : s = q.root
          · exact hq2 hsq.symm
          · rw [hr2 s hsq] at hc; exact hk1 c hc
        have hst : s ≠ t := by
          rintro rfl
          by_cases hsq : s = q.root
          · exact hq hsq.symm
          · rw [hr2 s hsq, hk2 s hst2] at hc; exact hk11 c hc
        by_cases hs : s = q.root
        · subst hs
          rcases (hr1 c).1 hc with h | h
          · exact ⟨by have := h.1; rwa [hk2 _ hq2, hk12 _ hq] at this, h.2, hst, hst2⟩
          · exact h.elim
        · rw [hr2 s hs, hk2 s hst2, hk12 s hst] at hc
          exact ⟨hc, fun hyc => hs (hS.dis _ _ _ hc (hFyq c hyc)), hst, hst2⟩
      cases hRp with
      | ref hx => simp [AV.isRef] at hx
      | @own _ _ _ _ e3 us' Fk _ ho hl h1' hr hd hb hF =>
        have := ownsRow_det ho hR2.hob
        subst this
        have hFk : ∀ k c, k < cs.length → Fk k c → Fy c := fun k c hk hc => (hF c).2 (.inr ⟨k, hk, hc⟩)
        have hH1 : Hand w I (RefAt w T) Fs1 (cs ++ new2 ++ new) (us' ++ news2 ++ news) (fun k => if k < cs.length then Fk k else E0) := by
          have l2 := hR2.hl
          have l0 := hR0.hl
          refine ⟨by simp [hl, l2, l0], fun k x u hx hu => ?_, fun j k c hj hk hc hc' => ?_, fun k s c hk hc hf => ?_, fun k c hk hc => ?_⟩
          · rw [List.append_assoc] at hx hu
            by_cases hkl : k < cs.length
            · rw [List.getElem?_append_left hkl] at hx
              rw [List.getElem?_append_left (by omega)] at hu
              simpa [hkl] using hr k x u hx hu
            · rw [List.getElem?_append_right (by omega)] at hx
              rw [List.getElem?_append_right (by omega), ← hl] at hu
              simp only [hkl, if_false]
              by_cases hkl2 : k - cs.length < new2.length
              · rw [List.getElem?_append_left hkl2] at hx
                rw [List.getElem?_append_left (by omega)] at hu
                exact hR2.hr _ x u hx hu
              · rw [List.getElem?_append_right (by omega)] at hx
                rw [List.getElem?_append_right (by omega), ← l2] at hu
                exact hR0.hr _ x u hx hu
          · by_cases hjl : j < cs.length <;> by_cases hkl : k < cs.length <;> simp [hjl, hkl, E0] at hc hc'
            exact hd j k c hjl hkl hc hc'
          · by_cases hkl : k < cs.length <;> simp [hkl, E0] at hc
            exact (hFs1 s c hf).2.1 (hFk k c hkl hc)
          · by_cases hkl : k < cs.length <;> simp [hkl, E0] at hc
            exact hS.imm _ c (hFyq c (hFk k c hkl hc))
        have slotB : ∀ s c, Fs s c → s = t ∨ s = t2 → (∃ s, Fs s c) ∧ (∀ s, ¬ Fs1 s c) ∧ (∀ k, k < (cs ++ new2 ++ new).length → ¬ (if k < cs.length then Fk k else E0) c) ∧ ¬ I c := by
          intro s c hc hs
          refine ⟨⟨_, hc⟩, fun s' hf => ?_, fun k hk hk' => ?_, hS.imm _ c hc⟩
          · obtain ⟨f1, _, f2, f3⟩ := hFs1 s' c hf
            have := hS.dis _ _ _ f1 hc
            rcases hs with rfl | rfl
            · exact f2 this
            · exact f3 this
          · by_cases hkl : k < cs.length <;> simp [hkl, E0] at hk'
            have := hS.dis _ _ _ (hFyq c (hFk k c hkl hk')) hc
            rcases hs with rfl | rfl
            · exact hq this
            · exact hq2 this
        obtain ⟨Fs', Hs', a1, a2, a3⟩ := Take.node (g1 := setP (setP (setP g ⟨t, []⟩ .dead) ⟨t2, []⟩ .dead) q .dead) (Fs := Fs) (B := fun c => (Value.slice a (n2 + m2 + m) cap).ownBlock = some c) (H0 := Hs 0) (X := .own z (n2 + m2 + m) cs') (v0 := .slice a (n2 + m2 + m) cap) hS1 hH1
          (fun c hc => by
            by_cases hbc : bv.ownBlock = some c
            · by_cases hbc2 : (Value.slice a' n2 cap').ownBlock = some c
              · have hyc : Fy c := (hF c).2 (.inl hbc2)
                refine ⟨⟨_, hFyq c hyc⟩, fun s hf => (hFs1 s c hf).2.1 hyc, fun k hk hk' => ?_, hS.imm _ c (hFyq c hyc)⟩
                by_cases hkl : k < cs.length <;> simp [hkl, E0] at hk'
                exact hb k c hkl hk' hbc2
              · exact slotB t2 c ((hR2.hF c).2 ⟨hbc, hbc2⟩) (.inr rfl)
            · exact slotB t c ((hR0.hF c).2 ⟨hc, hbc⟩) (.inl rfl))
          (fun c hc => by
            rcases hc with ⟨s, h⟩ | ⟨k, hk, h⟩
            · exact .inl ⟨s, (hFs1 s c h).1⟩
            · by_cases hkl : k < cs.length <;> simp [hkl, E0] at h
              exact .inl ⟨_, hFyq c (hFk k c hkl h)⟩)
          hH.tail (R.headOff hH) ih1 ih2 (fun Hs'' b1 b2 b3 => by
            refine .own hR0.hov (by rw [t1.length]; simp [hl, hR2.hl, hR0.hl]) (fun k u hu => ?_) b1 b2 (fun k c hk hc h => b3 k c hk hc h) fun c => Iff.rfl
            rw [List.append_assoc] at hu
            by_cases hkl : k < us'.length
            · rw [List.getElem?_append_left hkl] at hu; exact h1' k u hu
            · rw [List.getElem?_append_right (by omega)] at hu
              by_cases hkl2 : k - us'.length < news2.length
              · rw [List.getElem?_append_left hkl2] at hu; exact hR2.h1 _ u hu
              · rw [List.getElem?_append_right (by omega)] at hu; exact hR0.h1 _ u hu)
        exact ⟨Fs', Hs', a1, a2, fun c hc => AllB.head (a3 c hc)⟩
  | @obj g g1 g' p cs cs' xs xs' hp t1 _ ih1 ih2 =>
    intro Fs vs Hs hS hH
    cases vs with
    | nil => have := hH.len; simp at this
    | cons v vs =>
      obtain ⟨vp, Fy, hvp, hRp, hFy, rebuild⟩ := hS.part hp (by simp)
      obtain ⟨u, ad, h1, h2, rfl⟩ := (hH.rel 0 _ v rfl rfl).inv_ptr
      rw [h1] at hvp
      cases hvp
      obtain ⟨Fs1, hS1, hr1, hr2⟩ := rebuild .dead E0 (.dead fun _ h => h) (fun _ h => h.elim) (fun _ h => h.elim) (fun _ _ _ h => h.elim)
      have hFs1 : ∀ t c, Fs1 t c → Fs t c ∧ ¬ Fy c := by
        intro t c hc
        by_cases ht : t = p.root
        · subst ht
          rcases (hr1 c).1 hc with h | h
          · exact h
          · exact h.elim
        · rw [hr2 t ht] at hc
          exact ⟨hc, fun hyc => ht (hS.dis _ _ _ hc (hFy c hyc))⟩
      cases hRp with
      | ref hx => simp [AV.isRef] at hx
      | @obj _ b e arr Fk _ ho hl h1' hr hd hb hF =>
        simp only [addrOf, Option.some.injEq] at h2
        subst h2
        have hFk : ∀ k c, k < cs.length → Fk k c → Fy c := fun k c hk hc => (hF c).2 (.inr ⟨k, hk, hc⟩)
        have hH1 : Hand w I (RefAt w T) Fs1 cs arr.toList Fk :=
          ⟨by simp [hl], fun k x u hx hu => hr k x u hx (by simpa using hu), hd, fun k t c hk hc hf => (hFs1 t c hf).2 (hFk k c hk hc), fun k c hk hc => hS.imm _ c (hFy c (hFk k c hk hc))⟩
        obtain ⟨Fs', Hs', a1, a2, a3⟩ := Take.node (g1 := setP g p .dead) (Fs := Fs) (B := fun c => c = b) (H0 := Hs 0) (X := .obj cs') (v0 := .pointer (some ⟨b, 0, none⟩)) hS1 hH1
          (fun c hc => by
            subst hc
            have hyc : Fy c := (hF c).2 (.inl rfl)
            exact ⟨⟨_, hFy c hyc⟩, fun t hf => (hFs1 t c hf).2 hyc, fun k hk hk' => hb k hk hk', hS.imm _ c (hFy c hyc)⟩)
          (fun c hc => by
            rcases hc with ⟨t, h⟩ | ⟨k, hk, h⟩
            · exact .inl ⟨t, (hFs1 t c h).1⟩
            · exact .inl ⟨_, hFy c (hFk k c hk h)⟩)
          hH.tail (R.headOff hH) ih1 ih2 (fun Hs'' b1 b2 b3 => by
            refine .obj ho (by rw [t1.length, hl]) h1' (fun k x u hx hu => b1 k x u hx (by simpa using hu)) b2 (fun k hk h => b3 k b hk h rfl) fun c => Iff.rfl)
        exact ⟨Fs', Hs', a1, a2, fun c hc => AllB.head (a3 c hc)⟩
  | @agg g g1 g' cs cs' xs xs' t1 _ ih1 ih2 =>
    intro Fs vs Hs hS hH
    cases vs with
    | nil => have := hH.len; simp at this
    | cons v vs =>
      have hx := hH.rel 0 _ v rfl rfl
      have h0 := R.headOff hH
      cases hx with
      | ref hx => simp [AV.isRef] at hx
      | @agg _ us Fk _ hl h1' hr hd hF =>
        have hFk : ∀ k c, k < cs.length → Fk k c → Hs 0 c := fun k c hk hc => (hF c).2 ⟨k, hk, hc⟩
        obtain ⟨Fs', Hs', a1, a2, a3⟩ := Take.node (g1 := g) (Fs := Fs) (B := E0) (H0 := Hs 0) (X := .agg cs') (v0 := .agg us) hS
          (⟨by simp [hl], fun k x u hx hu => hr k x u hx (by simpa using hu), hd, fun k t c hk hc => (h0 c (hFk k c hk hc)).1 t, fun k c hk hc => hH.imm 0 c (by simp) (hFk k c hk hc)⟩ : Hand w I (RefAt w T) Fs cs us.toList Fk)
          (fun c hc => hc.elim)
          (fun c hc => by
            rcases hc with h | ⟨k, hk, h⟩
            · exact .inl h
            · exact .inr (hFk k c hk h))
          hH.tail h0 ih1 ih2 (fun Hs'' b1 b2 b3 => by
            refine .agg (by rw [t1.length, hl]) h1' (fun k x u hx hu => b1 k x u hx (by simpa using hu)) b2 fun c => ⟨fun h => h.elim (fun h => h.elim) id, .inr⟩)
        exact ⟨Fs', Hs', a1, a2, fun c hc => AllB.head (a3 c hc)⟩
  | @tup g g1 g' cs cs' xs xs' t1 _ ih1 ih2 =>
    intro Fs vs Hs hS hH
    cases vs with
    | nil => have := hH.len; simp at this
    | cons v vs =>
      have hx := hH.rel 0 _ v rfl rfl
      have h0 := R.headOff hH
      cases hx with
      | ref hx => simp [AV.isRef] at hx
      | @tup _ us Fk _ hl hr hd hF =>
        have hFk : ∀ k c, k < cs.length → Fk k c → Hs 0 c := fun k c hk hc => (hF c).2 ⟨k, hk, hc⟩
        obtain ⟨Fs', Hs', a1, a2, a3⟩ := Take.node (g1 := g) (Fs := Fs) (B := E0) (H0 := Hs 0) (X := .tup cs') (v0 := .tuple us) hS
          (⟨by simp [hl], fun k x u hx hu => hr k x u hx (by simpa using hu), hd, fun k t c hk hc => (h0 c (hFk k c hk hc)).1 t, fun k c hk hc => hH.imm 0 c (by simp) (hFk k c hk hc)⟩ : Hand w I (RefAt w T) Fs cs us.toList Fk)
          (fun c hc => hc.elim)
          (fun c hc => by
            rcases hc with h | ⟨k, hk, h⟩
            · exact .inl h
            · exact .inr (hFk k c hk h))
          hH.tail h0 ih1 ih2 (fun Hs'' b1 b2 b3 => by
            refine .tup (by rw [t1.length, hl]) (fun k x u hx hu => b1 k x u hx (by simpa using hu)) b2 fun c => ⟨fun h => h.elim (fun h => h.elim) id, .inr⟩)
        exact ⟨Fs', Hs', a1, a2, fun c hc => AllB.head (a3 c hc)⟩
end
end Go.Own
