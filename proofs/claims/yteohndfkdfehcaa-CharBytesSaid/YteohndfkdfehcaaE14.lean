import Derived.Test.YteohndfkdfehcaaE13
namespace Go.Own
open Go

/-- No reference in it. -/
inductive NR : AV → Prop
  | lit {v : Value} : NR (.lit v)
  | nils : NR .nils
  | dead : NR .dead
  | imm {z n : Nat} {cs : List AV} (h : ∀ x ∈ cs, NR x) : NR (.imm z n cs)
  | own {z n : Nat} {cs : List AV} (h : ∀ x ∈ cs, NR x) : NR (.own z n cs)
  | obj {cs : List AV} (h : ∀ x ∈ cs, NR x) : NR (.obj cs)
  | agg {cs : List AV} (h : ∀ x ∈ cs, NR x) : NR (.agg cs)
  | tup {cs : List AV} (h : ∀ x ∈ cs, NR x) : NR (.tup cs)
  | iptr {cs : List AV} (h : ∀ x ∈ cs, NR x) : NR (.iptr cs)
  | clo {fn : Fn} {a b : List AV} (h1 : ∀ x ∈ a, NR x) (h2 : ∀ x ∈ b, NR x) : NR (.clo fn a b)

/-- Only numbers, texts, and rows of its own. -/
inductive OO : AV → Prop
  | lit {v : Value} : OO (.lit v)
  | nils : OO .nils
  | dead : OO .dead
  | own {z n : Nat} {cs : List AV} (h : ∀ x ∈ cs, OO x) : OO (.own z n cs)
  | obj {cs : List AV} (h : ∀ x ∈ cs, OO x) : OO (.obj cs)
  | agg {cs : List AV} (h : ∀ x ∈ cs, OO x) : OO (.agg cs)
  | tup {cs : List AV} (h : ∀ x ∈ cs, OO x) : OO (.tup cs)

theorem OO.nr {x : AV} (h : OO x) : NR x := by
  induction h with
  | lit => exact .lit
  | nils => exact .nils
  | dead => exact .dead
  | own _ ih => exact .own ih
  | obj _ ih => exact .obj ih
  | agg _ ih => exact .agg ih
  | tup _ ih => exact .tup ih

/-- What a value is to a callee that only reads it. -/
inductive View (g : Gst) : AV → AV → Prop
  | self {x : AV} (h : NR x) (hx : ∀ z n cs, x ≠ .own z n cs) (ho : ∀ cs, x ≠ .obj cs) (ha : ∀ cs, x ≠ .agg cs) (ht : ∀ cs, x ≠ .tup cs) : View g x x
  | agg {cs cs' : List AV} (hl : cs'.length = cs.length) (h : ∀ (k : Nat) (x y : AV), cs[k]? = some x → cs'[k]? = some y → View g x y) : View g (.agg cs) (.agg cs')
  | own {z n : Nat} {cs cs' : List AV} (hl : cs'.length = cs.length) (h : ∀ (k : Nat) (x y : AV), cs[k]? = some x → cs'[k]? = some y → View g x y) : View g (.own z n cs) (.imm z n cs')
  | obj {cs cs' : List AV} (hl : cs'.length = cs.length) (h : ∀ (k : Nat) (x y : AV), cs[k]? = some x → cs'[k]? = some y → View g x y) : View g (.obj cs) (.iptr cs')
  | brw {z n N : Nat} {p : Place} {cs cs' : List AV} (hp : atP g p = some (.own z N cs)) (hn : n ≤ N) (hl : cs'.length = (cs.take (n * z)).length) (h : ∀ (k : Nat) (x y : AV), (cs.take (n * z))[k]? = some x → cs'[k]? = some y → View g x y) : View g (.brw z p n) (.imm z n cs')
  | sub {z lo n N : Nat} {p : Place} {cs cs' : List AV} (hp : atP g p = some (.own z N cs)) (hn : lo + n ≤ N) (hl : cs'.length = ((cs.drop (lo * z)).take (n * z)).length) (h : ∀ (k : Nat) (x y : AV), ((cs.drop (lo * z)).take (n * z))[k]? = some x → cs'[k]? = some y → View g x y) : View g (.sub z p lo n) (.imm z n cs')
  | ptr {p : Place} {k z n : Nat} {y : AV} {cs cs' : List AV} (hp : atP g p = some y) (hy : y = .own z n cs ∨ y = .obj cs) (hk : k < cs.length) (hl : cs'.length = (cs.drop k).length) (h : ∀ (j : Nat) (x y : AV), (cs.drop k)[j]? = some x → cs'[j]? = some y → View g x y) : View g (.ptr p k) (.iptr cs')

section
variable {P : Program} {w : World} {I : BSet} {T : Array Value} {g : Gst} {Fs : Nat → BSet}

theorem R.nr {ρ ρ' : AV → Value → Prop} {x : AV} {v : Value} {F : BSet} (h : R w I ρ x v F) : NR x → R w I ρ' x v F := by
  induction h with
  | lit h hF => exact fun _ => .lit h hF
  | nils hF => exact fun _ => .nils hF
  | dead hF => exact fun _ => .dead hF
  | @ref x _ _ hx h hF => intro hn; cases hn <;> simp [AV.isRef] at hx
  | imm0 hF => exact fun _ => .imm0 hF
  | imm hF hcap hI hs hl h1 hc hr ih => exact fun hn => .imm hF hcap hI hs hl h1 hc fun k x hx => ih k x hx (by cases hn with | imm h => exact h x (List.mem_of_getElem? hx))
  | iptr hF hI hs h1 hc hr ih => exact fun hn => .iptr hF hI hs h1 hc fun k x hx => ih k x hx (by cases hn with | iptr h => exact h x (List.mem_of_getElem? hx))
  | own ho hl h1 hr hd hb hF ih => exact fun hn => .own ho hl h1 (fun k x u hx hu => ih k x u hx hu (by cases hn with | own h => exact h x (List.mem_of_getElem? hx))) hd hb hF
  | obj ho hl h1 hr hd hb hF ih => exact fun hn => .obj ho hl h1 (fun k x u hx hu => ih k x u hx hu (by cases hn with | obj h => exact h x (List.mem_of_getElem? hx))) hd hb hF
  | agg hl h1 hr hd hF ih => exact fun hn => .agg hl h1 (fun k x u hx hu => ih k x u hx hu (by cases hn with | agg h => exact h x (List.mem_of_getElem? hx))) hd hF
  | tup hl hr hd hF ih => exact fun hn => .tup hl (fun k x u hx hu => ih k x u hx hu (by cases hn with | tup h => exact h x (List.mem_of_getElem? hx))) hd hF
  | clo hF h1 h2 hr1 hr2 ih1 ih2 => exact fun hn => .clo hF h1 h2 (fun k x u hx hu => ih1 k x u hx hu (by cases hn with | clo h _ => exact h x (List.mem_of_getElem? hx))) (fun k x u hx hu => ih2 k x u hx hu (by cases hn with | clo _ h => exact h x (List.mem_of_getElem? hx)))

theorem R.moreI {ρ : AV → Value → Prop} {I' : BSet} {x : AV} {v : Value} {F : BSet} (h : R w I ρ x v F) (hI : ∀ c, I c → I' c) : R w I' ρ x v F :=
  h.frame (fun _ _ => rfl) hI (fun _ _ h => h) fun _ _ => rfl

theorem R.oo {ρ ρ' : AV → Value → Prop} {I' : BSet} {x : AV} {v : Value} {F : BSet} (h : R w I ρ x v F) : OO x → R w I' ρ' x v F := by
  induction h with
  | lit h hF => exact fun _ => .lit h hF
  | nils hF => exact fun _ => .nils hF
  | dead hF => exact fun _ => .dead hF
  | @ref x _ _ hx h hF => intro hn; cases hn <;> simp [AV.isRef] at hx
  | imm0 => intro hn; cases hn
  | imm => intro hn; cases hn
  | iptr => intro hn; cases hn
  | own ho hl h1 hr hd hb hF ih => exact fun hn => .own ho hl h1 (fun k x u hx hu => ih k x u hx hu (by cases hn with | own h => exact h x (List.mem_of_getElem? hx))) hd hb hF
  | obj ho hl h1 hr hd hb hF ih => exact fun hn => .obj ho hl h1 (fun k x u hx hu => ih k x u hx hu (by cases hn with | obj h => exact h x (List.mem_of_getElem? hx))) hd hb hF
  | agg hl h1 hr hd hF ih => exact fun hn => .agg hl h1 (fun k x u hx hu => ih k x u hx hu (by cases hn with | agg h => exact h x (List.mem_of_getElem? hx))) hd hF
  | tup hl hr hd hF ih => exact fun hn => .tup hl (fun k x u hx hu => ih k x u hx hu (by cases hn with | tup h => exact h x (List.mem_of_getElem? hx))) hd hF
  | clo => intro hn; cases hn

/-- The cells of a row of one's own. -/
theorem R.ownCells {ρ : AV → Value → Prop} {z n : Nat} {cs : List AV} {v : Value} {F : BSet} (h : R w I ρ (.own z n cs) v F) : ∃ (a : Option Addr) (cap : Nat) (us : Nat → Value) (Fk : Nat → BSet), v = .slice a n cap ∧ n ≤ cap ∧ cs.length = n * z ∧
    (∀ ad, a = some ad → ∃ b, ad = ⟨b, 0, none⟩ ∧ F b) ∧ (∀ (k : Nat) (x : AV), cs[k]? = some x → ∃ b, a = some ⟨b, 0, none⟩ ∧ w.cell? ⟨b, k, none⟩ = some (us k) ∧ (us k).oneCell' = true ∧ R w I ρ x (us k) (Fk k) ∧ ∀ c, Fk k c → F c) := by
  have h0 := h
  cases h with
  | ref hx => simp [AV.isRef] at hx
  | @own _ _ _ _ e us Fs _ ho hl h1 hr hd hb hF =>
    obtain ⟨a, cap, rfl, hn, hlen, hoff, hsome⟩ := h0.own_slice
    refine ⟨a, cap, fun k => us.getD k undef, Fs, rfl, hn, hlen, fun ad had => ?_, fun k x hk => ?_⟩
    · obtain ⟨ho1, ho2⟩ := hoff ad had
      obtain ⟨b, o, sp⟩ := ad
      simp only at ho1 ho2
      subst ho1 ho2
      exact ⟨b, rfl, (hF b).2 (.inl (by rw [had]; rfl))⟩
    · have hlt : k < cs.length := (List.getElem?_eq_some_iff.1 hk).1
      have hu : us[k]? = some us[k] := List.getElem?_eq_getElem (hl ▸ hlt)
      obtain ⟨b, u, had, hcell, hch, hone, _⟩ := h0.node (.inl rfl) hk
      have : a = some ⟨b, 0, none⟩ := by
        cases a with
        | none => simp [addrOf] at had
        | some ad => simp only [addrOf] at had; rw [Option.some.inj had]
      rw [ownsRow_child ho hu] at hch
      cases hch
      refine ⟨b, this, ?_, ?_, ?_, fun c hc => (hF c).2 (.inr ⟨k, hlt, hc⟩)⟩
      · simpa [List.getD, hu] using hcell
      · simpa [List.getD, hu] using hone
      · simpa [List.getD, hu] using hr k x _ hk hu

theorem R.node_block {ρ : AV → Value → Prop} {y : AV} {v : Value} {F : BSet} {z n : Nat} {cs : List AV} (h : R w I ρ y v F) (hy : y = .own z n cs ∨ y = .obj cs) {ad : Addr} (ha : addrOf v = some ad) : F ad.block := by
  rcases hy with rfl | rfl
  · obtain ⟨a, cap, rfl, _⟩ := h.own_slice
    refine h.own_block _ ?_
    cases a with
    | none => simp [addrOf] at ha
    | some a => simp only [addrOf, Option.some.injEq] at ha; subst ha; rfl
  · cases h with
    | ref hx => simp [AV.isRef] at hx
    | obj ho hl h1 hr hd hb hF => simp only [addrOf, Option.some.injEq] at ha; subst ha; exact (hF _).2 (.inl rfl)

theorem View.sound (h : SR w I T g Fs) {x x' : AV} (hv : View g x x') : ∀ {v : Value} {F : BSet}, R w I (RG w T g) x v F → (∀ c, F c → ∃ t, Fs t c) → ∀ ρ', R w (fun c => I c ∨ ∃ t, Fs t c) ρ' x' v E0 := by
  induction hv with
  | self hn h1 h2 h3 h4 =>
    intro v F hR hF ρ'
    refine ((hR.nr hn).moreI fun c hc => .inl hc).empty ?_
    cases hR with
    | lit _ hF | nils hF | dead hF | ref _ _ hF | imm0 hF | imm hF | iptr hF | clo hF => exact hF
    | own => exact absurd rfl (h1 _ _ _)
    | obj => exact absurd rfl (h2 _)
    | agg => exact absurd rfl (h3 _)
    | tup => exact absurd rfl (h4 _)
  | @agg cs cs' hl _ ih =>
    intro v F hR hF ρ'
    cases hR with
    | ref hx => simp [AV.isRef] at hx
    | @agg _ vs Fk _ hl' h1 hr hd hFF =>
      refine .agg (Fs := fun _ => E0) (by rw [hl, hl']) h1 (fun k y u hy hu => ?_) (fun _ _ _ _ _ h => h.elim) (fun c => ⟨fun h => h.elim, fun ⟨_, _, h⟩ => h⟩)
      have hk : k < cs.length := by rw [← hl]; exact (List.getElem?_eq_some_iff.1 hy).1
      have hx := List.getElem?_eq_getElem hk
      exact ih k _ y hx hy (hr k _ u hx hu) (fun c hc => hF c ((hFF c).2 ⟨k, hk, hc⟩)) ρ'
  | @own z n cs cs' hl _ ih =>
    intro v F hR hF ρ'
    obtain ⟨a, cap, us, Fk, rfl, hn, hlen, ha, hc⟩ := hR.ownCells
    cases a with
    | none =>
      have hcs : cs = [] := by
        cases cs with
        | nil => rfl
        | cons c cs => obtain ⟨b, hb, _⟩ := hc 0 c rfl; cases hb
      subst hcs
      have hcs' : cs' = [] := List.eq_nil_of_length_eq_zero (by simpa using hl)
      subst hcs'
      have hn0 : n = 0 := by
        cases hR with
        | ref hx => simp [AV.isRef] at hx
        | own ho =>
          obtain ⟨_, hh⟩ := ho
          rcases hh with ⟨hh, h0⟩ | ⟨b, c2, cur, hh, _⟩
          · exact h0
          · cases hh
      subst hn0
      exact .imm0 fun _ h => h
    | some ad =>
      obtain ⟨b, rfl, hFb⟩ := ha ad rfl
      refine .imm (us := us) (fun _ h => h) hn (.inr (hF b hFb)) rfl (by rw [hl, hlen]) (fun k y hy => ?_) (fun k y hy => ?_) fun k y hy => ?_
      all_goals
        have hk : k < cs.length := by rw [← hl]; exact (List.getElem?_eq_some_iff.1 hy).1
        have hx := List.getElem?_eq_getElem hk
        obtain ⟨b', hb', h1, h2, h3, h4⟩ := hc k _ hx
        cases hb'
      · exact h2
      · simpa using h1
      · exact ih k _ y hx hy h3 (fun c hc => hF c (h4 c hc)) ρ'
  | @obj cs cs' hl _ ih =>
    intro v F hR hF ρ'
    cases hR with
    | ref hx => simp [AV.isRef] at hx
    | @obj _ b e arr Fk _ ho hl' h1 hr hd hb hFF =>
      refine .iptr (us := fun k => arr.getD k undef) (fun _ h => h) (.inr (hF b ((hFF b).2 (.inl rfl)))) rfl (fun k y hy => ?_) (fun k y hy => ?_) fun k y hy => ?_
      all_goals
        have hk : k < cs.length := by rw [← hl]; exact (List.getElem?_eq_some_iff.1 hy).1
        have hx := List.getElem?_eq_getElem hk
        have hu : arr[k]? = some arr[k] := Array.getElem?_eq_getElem (hl' ▸ hk)
      · simpa [hu] using h1 k _ hu
      · simp [World.cell?, ho, hu]
      · simpa [hu] using ih k _ y hx hy (hr k _ _ hx hu) (fun c hc => hF c ((hFF c).2 (.inr ⟨k, hk, hc⟩))) ρ'
  | @brw z n N p cs cs' hp hn hl _ ih =>
    intro v F hR hF ρ'
    obtain ⟨⟨a, N', cap, h1, rfl, h3⟩, _⟩ := hR.inv_brw
    obtain ⟨vp, Fp, hvp, hRp, hFp⟩ := h.part hp (by simp)
    rw [h1] at hvp
    cases hvp
    obtain ⟨a2, cap2, us, Fk, hsl, hcap, hlen, ha, hc⟩ := hRp.ownCells
    cases hsl
    have hle : n * z ≤ N * z := Nat.mul_le_mul_right _ hn
    have cell : ∀ k, k < cs'.length → ∃ x b, (cs.take (n * z))[k]? = some x ∧ a = some ⟨b, 0, none⟩ ∧ w.cell? ⟨b, k, none⟩ = some (us k) ∧ (us k).oneCell' = true ∧ R w I (RG w T g) x (us k) (Fk k) ∧ ∀ c, Fk k c → Fp c := by
      intro k hk
      rw [hl, List.length_take] at hk
      have hx : cs[k]? = some cs[k] := List.getElem?_eq_getElem (by omega)
      obtain ⟨b, r⟩ := hc k _ hx
      exact ⟨_, b, by rw [List.getElem?_take, if_pos (by omega)]; exact hx, r⟩
    cases a with
    | none =>
      have hcs' : cs' = [] := by
        cases cs' with
        | nil => rfl
        | cons c l => obtain ⟨_, b, _, hb, _⟩ := cell 0 (by simp); cases hb
      subst hcs'
      obtain ⟨_, _, hsl, _, _, _, hsome⟩ := hRp.own_slice
      cases hsl
      have hn0 : n = 0 := by
        rcases Nat.eq_zero_or_pos n with h0 | h0
        · exact h0
        · have := hsome (by omega); simp at this
      subst hn0
      exact .imm0 fun _ h => h
    | some ad =>
      obtain ⟨b, rfl, hFb⟩ := ha ad rfl
      refine .imm (us := us) (fun _ h => h) (by omega) (.inr ⟨_, hFp b hFb⟩) rfl (by rw [hl, List.length_take, hlen]; omega) (fun k y hy => ?_) (fun k y hy => ?_) fun k y hy => ?_
      all_goals
        obtain ⟨x, b', hx, hb', h4, h5, h6, h7⟩ := cell k (List.getElem?_eq_some_iff.1 hy).1
        cases hb'
      · exact h5
      · simpa using h4
      · exact ih k x y hx hy h6 (fun c hc => ⟨_, hFp c (h7 c hc)⟩) ρ'
  | @sub z lo n N p cs cs' hp hn hl _ ih =>
    intro v F hR hF ρ'
    obtain ⟨⟨a, N', cap, a', cap', h1, rfl, hncap, h3, h5⟩, _⟩ := hR.inv_sub
    obtain ⟨vp, Fp, hvp, hRp, hFp⟩ := h.part hp (by simp)
    rw [h1] at hvp
    cases hvp
    obtain ⟨a2, cap2, us, Fk, hsl, hcap, hlen, ha, hc⟩ := hRp.ownCells
    cases hsl
    have hle : lo * z + n * z ≤ N * z := by rw [← Nat.add_mul]; exact Nat.mul_le_mul_right _ hn
    have hl' : cs'.length = n * z := by rw [hl, List.length_take, List.length_drop, hlen]; omega
    have cell : ∀ k, k < cs'.length → ∃ x b, ((cs.drop (lo * z)).take (n * z))[k]? = some x ∧ a = some ⟨b, 0, none⟩ ∧ w.cell? ⟨b, lo * z + k, none⟩ = some (us (lo * z + k)) ∧ (us (lo * z + k)).oneCell' = true ∧ R w I (RG w T g) x (us (lo * z + k)) (Fk (lo * z + k)) ∧ ∀ c, Fk (lo * z + k) c → Fp c := by
      intro k hk
      have hx : cs[lo * z + k]? = some cs[lo * z + k] := List.getElem?_eq_getElem (by omega)
      obtain ⟨b, r⟩ := hc _ _ hx
      exact ⟨_, b, by rw [List.getElem?_take, if_pos (by omega), List.getElem?_drop]; exact hx, r⟩
    by_cases hn0 : n = 0
    · subst hn0
      have hcs' : cs' = [] := List.eq_nil_of_length_eq_zero (by simpa using hl')
      subst hcs'
      exact .imm0 fun _ h => h
    · obtain ⟨ad, rfl, rfl⟩ := h5 (by omega)
      obtain ⟨b, rfl, hFb⟩ := ha ad rfl
      refine .imm (us := fun k => us (lo * z + k)) (fun _ h => h) hncap (.inr ⟨_, hFp b hFb⟩) rfl hl' (fun k y hy => ?_) (fun k y hy => ?_) fun k y hy => ?_
      all_goals
        obtain ⟨x, b', hx, hb', h4, h5', h6, h7⟩ := cell k (List.getElem?_eq_some_iff.1 hy).1
        cases hb'
      · exact h5'
      · simpa using h4
      · exact ih k x y hx hy h6 (fun c hc => ⟨_, hFp c (h7 c hc)⟩) ρ'
  | @ptr p k z n y cs cs' hp hy hk hl _ ih =>
    intro v F hR hF ρ'
    obtain ⟨⟨u, ad, h1, h2, rfl⟩, _⟩ := hR.inv_ptr
    obtain ⟨vp, Fp, hvp, hRp, hFp⟩ := h.part hp (by rcases hy with rfl | rfl <;> simp)
    rw [h1] at hvp
    cases hvp
    have cell : ∀ j, j < cs'.length → ∃ uu xx Fx, w.cell? ⟨ad.block, k + j, none⟩ = some uu ∧ uu.oneCell' = true ∧ (cs.drop k)[j]? = some xx ∧ R w I (RG w T g) xx uu Fx ∧ (∀ c, Fx c → ∃ t, Fs t c) := by
      intro j hj
      rw [hl, List.length_drop] at hj
      have hx' : cs[k + j]? = some cs[k + j] := List.getElem?_eq_getElem (by omega)
      obtain ⟨b, uu, had, hcell, hch, hone, _⟩ := hRp.node hy hx'
      rw [h2] at had
      cases had
      have hat : atP g (p.push (k + j)) = some cs[k + j] := by rw [atP_push, hp]; rcases hy with rfl | rfl <;> simp [AV.kids]
      by_cases hpd : ∃ z' q' n' m' new', cs[k + j] = .pend z' q' n' m' new'
      · obtain ⟨z', q', n', m', new', hpd⟩ := hpd
        obtain ⟨b, uu', _, _, hch', _, Fk, hRk⟩ := hRp.node hy hx'
        rw [hpd] at hRk
        exact hRk.notPend.elim
      · obtain ⟨vv, FF, hvv, hRR, hFF⟩ := h.part hat (fun z' q' n' m' new' e => hpd ⟨_, _, _, _, _, e⟩)
        rw [valAt_push, h1] at hvv
        simp only [Option.bind_some] at hvv
        rw [hch] at hvv
        cases hvv
        exact ⟨uu, _, FF, hcell, hone, by rw [List.getElem?_drop]; exact hx', hRR, fun c hc => ⟨_, hFF c hc⟩⟩
    obtain ⟨b, uu, had, _⟩ := hRp.node hy (List.getElem?_eq_getElem hk)
    rw [h2] at had
    cases had
    have hblk : ∃ t, Fs t b := ⟨_, hFp b (hRp.node_block hy h2)⟩
    refine .iptr (us := fun j => (w.cell? ⟨b, k + j, none⟩).getD undef) (fun _ h => h) (.inr hblk) rfl (fun j yy hyy => ?_) (fun j yy hyy => ?_) fun j yy hyy => ?_
    all_goals
      obtain ⟨uu, xx, Fx, c1, c2, c3, c4, c5⟩ := cell j (List.getElem?_eq_some_iff.1 hyy).1
    · simpa [c1] using c2
    · simp [c1]
    · simpa [c1] using ih j xx yy c3 hyy c4 c5 ρ'
end
end Go.Own
