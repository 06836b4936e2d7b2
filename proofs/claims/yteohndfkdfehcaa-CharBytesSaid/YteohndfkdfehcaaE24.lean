import Derived.Test.YteohndfkdfehcaaE23
namespace Go.Own
open Go

section
variable {P : Program} {N : Rm} {ops : Array Oper} {AT : List (List Nat)}

def Down (AT : List (List Nat)) (listed : Array Bool) : Prop := ∀ k, Lst listed k = true → ∀ m ∈ AT.getD k [], Lst listed m = true

theorem ancOk_spec (h : ancOk ops AT = true) {k : Nat} {o : Oper} (ho : ops[k]? = some o) :
    (∀ e ∈ o.after, Region.binds .any e = true → e.on < k) ∧ ∀ m ∈ AT.getD k [], m < k ∧ ∃ e ∈ o.after, Region.binds .any e = true ∧ (e.on = m ∨ m ∈ AT.getD e.on []) := by
  have hk : k < ops.size := (Array.getElem?_eq_some_iff.1 ho).1
  unfold ancOk at h
  have := List.all_eq_true.1 h k (List.mem_range.2 hk)
  simp only [ho, Bool.and_eq_true] at this
  obtain ⟨h1, h2⟩ := this
  constructor
  · intro e he hb
    have := Array.all_eq_true_iff_forall_mem.1 h1 e he
    simpa [hb] using this
  · intro m hm
    have := List.all_eq_true.1 h2 m hm
    simp only [Bool.and_eq_true, decide_eq_true_eq] at this
    refine ⟨this.1, ?_⟩
    obtain ⟨j, hj, hb⟩ := Array.any_eq_true.1 this.2
    have he := Array.getElem_mem hj
    generalize o.after[j] = e at hb he
    simp only [Bool.and_eq_true, Bool.or_eq_true, beq_iff_eq, List.contains_iff_mem] at hb
    exact ⟨e, he, hb.1, hb.2⟩

theorem ready_spec {listed : Array Bool} {k : Nat} (h : k ∈ Region.ready .any ops listed) : Lst listed k = false ∧ ∃ o, ops[k]? = some o ∧ ∀ e ∈ o.after, Region.binds .any e = true → Lst listed e.on = true := by
  obtain ⟨h1, o, ho, h2⟩ := mem_ready.1 h
  refine ⟨?_, o, ho, h2⟩
  unfold Lst
  rcases Nat.lt_or_ge k listed.size with hk | hk
  · simp [hk] at h1 ⊢; exact h1
  · simp [Array.getElem?_eq_none hk] at h1

theorem ready_anc (hA : ancOk ops AT = true) {listed : Array Bool} (hd : Down AT listed) {k : Nat} (h : k ∈ Region.ready .any ops listed) : ∀ m ∈ AT.getD k [], Lst listed m = true := by
  obtain ⟨_, o, ho, h2⟩ := ready_spec h
  intro m hm
  obtain ⟨_, e, he, hb, h3⟩ := (ancOk_spec hA ho).2 m hm
  rcases h3 with rfl | h3
  · exact h2 e he hb
  · exact hd e.on (h2 e he hb) m h3

theorem ready_ex (hA : ancOk ops AT = true) {listed : Array Bool} (hsz : listed.size = ops.size) : ∀ k, k < ops.size → Lst listed k = false → Region.ready .any ops listed ≠ [] := by
  intro k
  induction k using Nat.strongRecOn with
  | _ k ih =>
    intro hk hl
    by_cases hex : ∃ j, j < k ∧ Lst listed j = false
    · obtain ⟨j, hj, hlj⟩ := hex
      exact ih j hj (by omega) hlj
    · have hmem : k ∈ Region.ready .any ops listed := by
        refine mem_ready.2 ⟨?_, ops[k], Array.getElem?_eq_getElem hk, fun e he hb => ?_⟩
        · unfold Lst at hl
          simp [hsz, hk] at hl ⊢; exact hl
        · have hlt := (ancOk_spec hA (Array.getElem?_eq_getElem hk)).1 e he hb
          cases hle : Lst listed e.on with
          | true => exact hle
          | false => exact absurd ⟨e.on, hlt, hle⟩ hex
      intro e
      rw [e] at hmem
      cases hmem

theorem visG_congr {g0 : Gst} {A B : Nat → Bool} {acc : Acc} {t : Nat} (h : ∀ e ∈ acc, e.2.1 = t → A e.1 = B e.1) : visG g0 A acc t = visG g0 B acc t := by
  induction acc with
  | nil => rfl
  | cons e acc ih =>
    obtain ⟨k, d, r⟩ := e
    simp only [visG]
    by_cases hd : d = t
    · rw [if_pos hd, if_pos hd, h (k, d, r) (by simp) hd]
    · rw [if_neg hd, if_neg hd, ih fun e he => h e (by simp [he])]

theorem Lst_set {listed : Array Bool} {k j : Nat} (hk : k < listed.size) : Lst (listed.setIfInBounds k true) j = if j = k then true else Lst listed j := by
  by_cases hjk : j = k
  · subst hjk; simp [Lst, hk]
  · rw [if_neg hjk]; simp [Lst, Array.getElem?_setIfInBounds_ne (Ne.symm hjk)]

theorem seg_sound (hA : ancOk ops AT = true) {g0 g' : Gst} {i j : Nat} {acc : Acc} (hs : Seg P N ops AT g0 i j acc) (hpd : (acc.filterMap pendPlace).Nodup) (hp0 : ∀ t z q n m new, g0 t ≠ some (.pend z q n m new)) (hj : j ≤ ops.size)
    {Q : Exit → Act → World → Prop}
    (blk : ∀ listed : Array Bool, (∀ k, j ≤ k → Lst listed k = false) → Down AT listed → (∃ k, k < j ∧ Lst listed k = false) → ∀ k ∈ Region.ready .any ops listed, k < j)
    (cont : ∀ (fuel : Nat) (listed : Array Bool) (a : Act) (w : World) (I : BSet) (Fs : Nat → BSet), cnt ops listed ≤ fuel → listed.size = ops.size → (∀ k, k < j → Lst listed k = true) → (∀ k, j ≤ k → Lst listed k = false) → SR w I a.tmps (visG g0 (fun _ => true) acc) Fs → a.tmps.size = N.size →
      (∀ a' w', Next' N a w I Fs g' a' w' → Q .normal a' w') → wpAny P .any ops Q fuel listed a w) :
    ∀ (fuel : Nat) (listed : Array Bool) (a : Act) (w : World) (I : BSet) (Fs : Nat → BSet), cnt ops listed ≤ fuel → listed.size = ops.size → (∀ k, k < i → Lst listed k = true) → (∀ k, j ≤ k → Lst listed k = false) → Down AT listed → SR w I a.tmps (visG g0 (Lst listed) acc) Fs → a.tmps.size = N.size →
      (∀ a' w', Next' N a w I Fs g' a' w' → Q .normal a' w') → wpAny P .any ops Q fuel listed a w := by
  intro fuel
  induction fuel with
  | zero =>
    intro listed a w I Fs hc hsz hi hge hd hS hN hQ
    by_cases hall : ∀ k, k < j → Lst listed k = true
    · refine cont 0 listed a w I Fs hc hsz hall hge ?_ hN hQ
      have : visG g0 (Lst listed) acc = visG g0 (fun _ => true) acc := funext fun t => visG_congr fun e he _ => hall e.1 (hs.le.2 e he).2
      rw [← this]; exact hS
    · exfalso
      obtain ⟨k, hk⟩ := Classical.not_forall.1 hall
      obtain ⟨hkj, hkl⟩ := Classical.not_imp.1 hk
      have := cnt_set (ops := ops) (listed := listed) (k := k) (by omega) (by simpa using hkl) hsz
      omega
  | succ fuel ih =>
    intro listed a w I Fs hc hsz hi hge hd hS hN hQ
    by_cases hall : ∀ k, k < j → Lst listed k = true
    · refine cont (fuel + 1) listed a w I Fs hc hsz hall hge ?_ hN hQ
      have : visG g0 (Lst listed) acc = visG g0 (fun _ => true) acc := funext fun t => visG_congr fun e he _ => hall e.1 (hs.le.2 e he).2
      rw [← this]; exact hS
    · obtain ⟨k0, hk0⟩ := Classical.not_forall.1 hall
      obtain ⟨hk0j, hk0l⟩ := Classical.not_imp.1 hk0
      have hk0l : Lst listed k0 = false := by simpa using hk0l
      refine ⟨fun hr => absurd hr (ready_ex hA hsz k0 (by omega) hk0l), fun k hk => ?_⟩
      have hkj := blk listed hge hd ⟨k0, hk0j, hk0l⟩ k hk
      obtain ⟨hkl, _⟩ := ready_spec hk
      have hki : i ≤ k := by
        rcases Nat.lt_or_ge k i with h | h
        · rw [hi k h] at hkl; cases hkl
        · exact h
      obtain ⟨o, d, r, acc0, ho, hod, hg0, hdN, hmem, hst, hsub, hs0⟩ := hs.get k hki hkj
      have hanc := ready_anc hA hd hk
      have hle : Le (visG g0 (fun m => (AT.getD k []).contains m) acc0) (visG g0 (Lst listed) acc) := by
        intro t x hx
        rcases visG_some hx with ⟨e, he, rfl, hAe, hex⟩ | ⟨hout, hg⟩
        · rw [hs.at_mem (hsub e he), hanc e.1 (by simpa using hAe)]
          exact hex
        · rw [visG_out fun e he hed => ?_]
          · exact hg
          · have := hs.fresh e he
            rw [hed, hg] at this; cases this
      have hno : ∀ z p n m new, r = some (.pend z p n m new) → ∀ t z' n' m' new', visG g0 (Lst listed) acc t ≠ some (.pend z' p n' m' new') := by
        intro z p n m new hr t z' n' m' new' ht
        rcases visG_some ht with ⟨e, he, _, hAe, hex⟩ | ⟨_, hg⟩
        · obtain ⟨k', d', r'⟩ := e
          have := pend_uniq hpd (p := p) hmem he (by rw [hr]; rfl) (by simp only at hex; rw [hex]; rfl)
          cases this
          rw [hkl] at hAe; cases hAe
        · exact hp0 _ _ _ _ _ _ hg
      have hst' := hst.mono hle hno
      have hgd : visG g0 (Lst listed) acc d = none := by
        have := hs.at_mem (A := Lst listed) hmem
        simpa [hkl] using this
      unfold wpOp
      simp only [ho]
      refine hst'.sound hS rfl hN hod hgd hdN fun a' w' hn => ?_
      obtain ⟨e1, e2, I', Fs', hS', hst2⟩ := hn
      have hksz : k < listed.size := by omega
      have hL : ∀ j, Lst (listed.setIfInBounds k true) j = if j = k then true else Lst listed j := fun j => Lst_set hksz
      have hcnt := cnt_set (ops := ops) (listed := listed) (k := k) (by omega) hkl hsz
      have hG : visG g0 (Lst (listed.setIfInBounds k true)) acc = putR (visG g0 (Lst listed) acc) d r := by
        funext t
        by_cases htd : t = d
        · subst htd
          have h1 := hs.at_mem (A := Lst (listed.setIfInBounds k true)) hmem
          simp only [hL k, if_true] at h1
          rw [h1]
          cases r with
          | none => simp only [putR]; exact hgd.symm
          | some x => simp [putR, upd]
        · have h1 : visG g0 (Lst (listed.setIfInBounds k true)) acc t = visG g0 (Lst listed) acc t := visG_congr fun e he het => by
            rw [hL e.1, if_neg]
            intro hek
            have := hs.uniq he hmem (.inl hek)
            rw [this] at het
            exact htd het.symm
          rw [h1]
          cases r with
          | none => rfl
          | some x => simp [putR, upd, htd]
      refine ih (listed.setIfInBounds k true) a' w' I' Fs' (by omega) (by simpa using hsz) (fun m hm => ?_) (fun m hm => ?_) (fun m hm q hq => ?_) (by rw [hG]; exact hS') (e2.1.trans hN) fun a2 w2 h2 => hQ _ _ (Next'.trans e1 e2 hst2 h2)
      · rw [hL]; split
        · rfl
        · exact hi m hm
      · rw [hL, if_neg (by omega)]; exact hge m hm
      · rw [hL] at hm ⊢
        split
        · rfl
        · split at hm
          · rename_i hmk; subst hmk; exact hanc q hq
          · exact hd m hm q hq

theorem DRun.sound (hA : ancOk ops AT = true) {i : Nat} {g g' : Gst} (h : DRun P N ops AT i g g') : ∀ {Q : Exit → Act → World → Prop} (fuel : Nat) (listed : Array Bool) (a : Act) (w : World) (I : BSet) (Fs : Nat → BSet), cnt ops listed ≤ fuel → listed.size = ops.size → (∀ k, k < i → Lst listed k = true) → (∀ k, i ≤ k → Lst listed k = false) →
    SR w I a.tmps g Fs → a.tmps.size = N.size → (∀ a' w', Next' N a w I Fs g' a' w' → Q .normal a' w') → wpAny P .any ops Q fuel listed a w := by
  have start : ∀ {g : Gst} {i j : Nat} {acc : Acc} {listed : Array Bool}, Seg P N ops AT g i j acc → (∀ k, i ≤ k → Lst listed k = false) → visG g (Lst listed) acc = g := by
    intro g i j acc listed hs hge
    funext t
    by_cases hex : ∃ e ∈ acc, e.2.1 = t
    · obtain ⟨e, he, rfl⟩ := hex
      rw [hs.at_mem he, hge e.1 (hs.le.2 e he).1, hs.fresh e he]; rfl
    · exact visG_out fun e he h => hex ⟨e, he, h⟩
  have down : ∀ {i : Nat} {listed : Array Bool}, listed.size = ops.size → (∀ k, k < i → Lst listed k = true) → (∀ k, i ≤ k → Lst listed k = false) → Down AT listed := by
    intro i listed hsz hlt hge k hk m hm
    have hki : k < i := by
      rcases Nat.lt_or_ge k i with h | h
      · exact h
      · rw [hge k h] at hk; cases hk
    have hks : k < ops.size := by
      rcases Nat.lt_or_ge k ops.size with h | h
      · exact h
      · simp [Lst, Array.getElem?_eq_none (show listed.size ≤ k by omega)] at hk
    have := ((ancOk_spec hA (Array.getElem?_eq_getElem hks)).2 m hm).1
    exact hlt m (by omega)
  induction h with
  | @fin i g acc hs hpd hp0 =>
    intro Q fuel listed a w I Fs hc hsz hlt hge hS hN hQ
    refine seg_sound hA hs hpd hp0 (Nat.le_refl _) ?_ ?_ fuel listed a w I Fs hc hsz hlt (fun k hk => hge k (Nat.le_trans hs.le.1 hk)) (down hsz hlt hge) (by rw [start hs hge]; exact hS) hN hQ
    · intro listed hge' hd' _ k hk
      obtain ⟨_, o, ho, _⟩ := ready_spec hk
      exact (Array.getElem?_eq_some_iff.1 ho).1
    · intro fuel listed a w I Fs hc hsz hall hge' hS hN hQ
      refine wpAny_done ?_ (hQ _ _ ⟨rfl, Hold.refl, I, Fs, hS, St.refl _ _ _⟩) fuel
      cases hr : Region.ready .any ops listed with
      | nil => rfl
      | cons k l =>
        have hk : k ∈ Region.ready .any ops listed := by rw [hr]; simp
        obtain ⟨hkl, o, ho, _⟩ := ready_spec hk
        rw [hall k (Array.getElem?_eq_some_iff.1 ho).1] at hkl; cases hkl
  | @bar i j g g1 g' acc o hs hpd hp0 ho hw he ha hb _ ih =>
    intro Q fuel listed a w I Fs hc hsz hlt hge hS hN hQ
    have hjs : j < ops.size := (Array.getElem?_eq_some_iff.1 ho).1
    have haj : ∀ m, m < j → m ∈ AT.getD j [] := fun m hm => by
      have := List.all_eq_true.1 ha m (List.mem_range.2 hm)
      simpa using this
    have hbj : ∀ k, j < k → k < ops.size → j ∈ AT.getD k [] := fun k hk hks => by
      have := List.all_eq_true.1 hb k (List.mem_range.2 hks)
      simp only [Bool.or_eq_true, decide_eq_true_eq, List.contains_iff_mem] at this
      exact this.resolve_left (by omega)
    refine seg_sound hA hs hpd hp0 (by omega) ?_ ?_ fuel listed a w I Fs hc hsz hlt (fun k hk => hge k (Nat.le_trans hs.le.1 hk)) (down hsz hlt hge) (by rw [start hs hge]; exact hS) hN hQ
    · rintro listed hge' hd' ⟨m, hm, hml⟩ k hk
      have hanc := ready_anc hA hd' hk
      obtain ⟨_, o', ho', _⟩ := ready_spec hk
      have hks := (Array.getElem?_eq_some_iff.1 ho').1
      rcases Nat.lt_trichotomy k j with h | h | h
      · exact h
      · subst h; rw [hanc m (haj m hm)] at hml; cases hml
      · have := hanc j (hbj k h hks); rw [hge' j (Nat.le_refl _)] at this; cases this
    · intro fuel listed a w I Fs hc hsz hall hge' hS hN hQ
      have hjl : Lst listed j = false := hge' j (Nat.le_refl _)
      have hcnt := cnt_set (ops := ops) (listed := listed) (k := j) hjs hjl hsz
      cases fuel with
      | zero => omega
      | succ fuel =>
        refine ⟨fun hr => absurd hr (ready_ex hA hsz j hjs hjl), fun k hk => ?_⟩
        have hd' : Down AT listed := down hsz hall hge'
        have hanc := ready_anc hA hd' hk
        obtain ⟨hkl, o', ho', _⟩ := ready_spec hk
        have hks := (Array.getElem?_eq_some_iff.1 ho').1
        have hkj : k = j := by
          rcases Nat.lt_trichotomy k j with h | h | h
          · rw [hall k h] at hkl; cases hkl
          · exact h
          · have := hanc j (hbj k h hks); rw [hjl] at this; cases this
        subst hkj
        unfold wpOp
        simp only [ho, hw.sound hS, if_true]
        refine .inl (he.sound hS rfl hN fun a' w' hn => ?_)
        obtain ⟨e1, e2, I', Fs', hS', hst2⟩ := hn
        have hL : ∀ j, Lst (listed.setIfInBounds k true) j = if j = k then true else Lst listed j := fun j => Lst_set (by omega)
        refine ih fuel (listed.setIfInBounds k true) a' w' I' Fs' (by omega) (by simpa using hsz) (fun m hm => ?_) (fun m hm => ?_) hS' (e2.1.trans hN) fun a2 w2 h2 => hQ _ _ (Next'.trans e1 e2 hst2 h2)
        · rw [hL]; split
          · rfl
          · exact hall m (by omega)
        · rw [hL, if_neg (by omega)]; exact hge' m (by omega)
end
end Go.Own
