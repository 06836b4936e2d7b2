import Derived.Test.YteohndfkdfehcaaE16
namespace Go.Own
open Go

/-- Values are taken out of where they stand: references become what they lead to; there 'dead' is left. -/
inductive Take : Gst → List AV → List AV → Gst → Prop
  | nr {g : Gst} {xs : List AV} (h : ∀ x ∈ xs, NR x) : Take g xs xs g
  | cons {g g' : Gst} {x : AV} {xs xs' : List AV} (h : NR x) (ht : Take g xs xs' g') : Take g (x :: xs) (x :: xs') g'
  | brw {g g1 g' : Gst} {z n N : Nat} {p : Place} {cs cs' xs xs' : List AV} (hp : atP g p = some (.own z N cs)) (hn : n ≤ N) (h1 : Take (setP g p .dead) (cs.take (n * z)) cs' g1) (h2 : Take g1 xs xs' g') :
      Take g (.brw z p n :: xs) (.own z n cs' :: xs') g'
  | pend {g g1 g' : Gst} {z n m t : Nat} {q : Place} {cs new cs' xs xs' : List AV} (ht : g t = some (.pend z q n m new)) (hp : atP g q = some (.own z n cs)) (hq : q.root ≠ t) (h1 : Take (setP (setP g ⟨t, []⟩ .dead) q .dead) (cs ++ new) cs' g1) (h2 : Take g1 xs xs' g') :
      Take g (.brw z ⟨t, []⟩ (n + m) :: xs) (.own z (n + m) cs' :: xs') g'
  | pend2 {g g1 g' : Gst} {z n m t n2 m2 t2 : Nat} {q : Place} {cs new new2 cs' xs xs' : List AV} (ht : g t = some (.pend z ⟨t2, []⟩ n m new)) (ht2 : g t2 = some (.pend z q n2 m2 new2)) (hn : n = n2 + m2) (hp : atP g q = some (.own z n2 cs)) (hq : q.root ≠ t) (hq2 : q.root ≠ t2) (htt : t ≠ t2)
      (h1 : Take (setP (setP (setP g ⟨t, []⟩ .dead) ⟨t2, []⟩ .dead) q .dead) (cs ++ new2 ++ new) cs' g1) (h2 : Take g1 xs xs' g') :
      Take g (.brw z ⟨t, []⟩ (n + m) :: xs) (.own z (n + m) cs' :: xs') g'
  | obj {g g1 g' : Gst} {p : Place} {cs cs' xs xs' : List AV} (hp : atP g p = some (.obj cs)) (h1 : Take (setP g p .dead) cs cs' g1) (h2 : Take g1 xs xs' g') : Take g (.ptr p 0 :: xs) (.obj cs' :: xs') g'
  | agg {g g1 g' : Gst} {cs cs' xs xs' : List AV} (h1 : Take g cs cs' g1) (h2 : Take g1 xs xs' g') : Take g (.agg cs :: xs) (.agg cs' :: xs') g'
  | tup {g g1 g' : Gst} {cs cs' xs xs' : List AV} (h1 : Take g cs cs' g1) (h2 : Take g1 xs xs' g') : Take g (.tup cs :: xs) (.tup cs' :: xs') g'

/-- Values in hand: of each the blocks that it owns. -/
structure Hand (w : World) (I : BSet) (ρ : AV → Value → Prop) (Fs : Nat → BSet) (xs : List AV) (vs : List Value) (Hs : Nat → BSet) : Prop where
  len : xs.length = vs.length
  rel : ∀ (k : Nat) (x : AV) (u : Value), xs[k]? = some x → vs[k]? = some u → R w I ρ x u (Hs k)
  dis : ∀ (j k c : Nat), j < xs.length → k < xs.length → Hs j c → Hs k c → j = k
  off : ∀ (k t c : Nat), k < xs.length → Hs k c → ¬ Fs t c
  imm : ∀ (k c : Nat), k < xs.length → Hs k c → ¬ I c

/-- All blocks: of the state and in hand. -/
def AllB (Fs : Nat → BSet) (n : Nat) (Hs : Nat → BSet) : BSet := fun c => (∃ t, Fs t c) ∨ ∃ k, k < n ∧ Hs k c

section
variable {w : World} {I : BSet} {T : Array Value}

theorem Take.length {g g' : Gst} {xs xs' : List AV} (h : Take g xs xs' g') : xs'.length = xs.length := by
  induction h with
  | nr => rfl
  | cons _ _ ih => simp [ih]
  | brw _ _ _ _ _ ih => simp [ih]
  | pend _ _ _ _ _ _ ih => simp [ih]
  | pend2 _ _ _ _ _ _ _ _ _ _ ih => simp [ih]
  | obj _ _ _ _ ih => simp [ih]
  | agg _ _ _ ih => simp [ih]
  | tup _ _ _ ih => simp [ih]

/-- One value is put to others in hand. -/
theorem Hand.cons {ρ : AV → Value → Prop} {Fs : Nat → BSet} {x : AV} {v : Value} {F : BSet} {xs : List AV} {vs : List Value} {Hs : Nat → BSet} (h : Hand w I ρ Fs xs vs Hs) (hx : R w I ρ x v F)
    (hd : ∀ k c, k < xs.length → F c → ¬ Hs k c) (ho : ∀ t c, F c → ¬ Fs t c) (hi : ∀ c, F c → ¬ I c) : Hand w I ρ Fs (x :: xs) (v :: vs) (fun k => match k with | 0 => F | k + 1 => Hs k) := by
  refine ⟨by simp [h.len], fun k y u hy hu => ?_, fun j k c hj hk h1 h2 => ?_, fun k t c hk hc => ?_, fun k c hk hc => ?_⟩
  · cases k with
    | zero => simp at hy hu; subst hy hu; exact hx
    | succ k => simp at hy hu; exact h.rel k y u hy hu
  · cases j <;> cases k
    · rfl
    · exact absurd h2 (hd _ c (by simpa using hk) h1)
    · exact absurd h1 (hd _ c (by simpa using hj) h2)
    · rw [h.dis _ _ c (by simpa using hj) (by simpa using hk) h1 h2]
  · cases k with
    | zero => exact ho t c hc
    | succ k => exact h.off k t c (by simpa using hk) hc
  · cases k with
    | zero => exact hi c hc
    | succ k => exact h.imm k c (by simpa using hk) hc

theorem Hand.tail {ρ : AV → Value → Prop} {Fs : Nat → BSet} {x : AV} {v : Value} {xs : List AV} {vs : List Value} {Hs : Nat → BSet} (h : Hand w I ρ Fs (x :: xs) (v :: vs) Hs) : Hand w I ρ Fs xs vs (fun k => Hs (k + 1)) :=
  ⟨by simpa using h.len, fun k y u hy hu => h.rel (k + 1) y u hy hu, fun j k c hj hk h1 h2 => by have := h.dis (j + 1) (k + 1) c (by simpa using hj) (by simpa using hk) h1 h2; omega,
   fun k t c hk hc => h.off (k + 1) t c (by simpa using hk) hc, fun k c hk hc => h.imm (k + 1) c (by simpa using hk) hc⟩

theorem nr_cons {x : AV} {xs : List AV} (h : NR x) (ih : ∀ y ∈ xs, NR y) : ∀ y ∈ x :: xs, NR y := by
  intro y hy
  rcases List.mem_cons.1 hy with rfl | hy
  · exact h
  · exact ih y hy

theorem Take.nrOut {g g' : Gst} {xs xs' : List AV} (h : Take g xs xs' g') : ∀ x ∈ xs', NR x := by
  induction h with
  | nr h => exact h
  | cons h _ ih => exact nr_cons h ih
  | brw _ _ _ _ ih1 ih2 => exact nr_cons (.own ih1) ih2
  | pend _ _ _ _ _ ih1 ih2 => exact nr_cons (.own ih1) ih2
  | pend2 _ _ _ _ _ _ _ _ _ ih1 ih2 => exact nr_cons (.own ih1) ih2
  | obj _ _ _ ih1 ih2 => exact nr_cons (.obj ih1) ih2
  | agg _ _ ih1 ih2 => exact nr_cons (.agg ih1) ih2
  | tup _ _ ih1 ih2 => exact nr_cons (.tup ih1) ih2

/-- What 'Take' has been shown to do. -/
def TakeOk (w : World) (I : BSet) (T : Array Value) (g : Gst) (xs xs' : List AV) (g' : Gst) : Prop :=
  ∀ {Fs : Nat → BSet} {vs : List Value} {Hs : Nat → BSet}, SRc w I T g Fs → Hand w I (RefAt w T) Fs xs vs Hs →
    ∃ Fs' Hs', SRc w I T g' Fs' ∧ Hand w I (RefAt w T) Fs' xs' vs Hs' ∧ ∀ c, AllB Fs' xs'.length Hs' c → AllB Fs xs.length Hs c

theorem ownsRow_det {w : World} {e e' : TypeId} {z n : Nat} {v : Value} {us us' : List Value} (h : w.ownsRow 0 e z v n us) (h' : w.ownsRow 0 e' z v n us') : us = us' := by
  obtain ⟨h1, h2⟩ := h
  obtain ⟨h1', h2'⟩ := h'
  rcases h2 with ⟨rfl, rfl⟩ | ⟨b, cap, cur, rfl, _, hg, _, _, _, ht⟩
  · simp at h1 h1'; rw [h1, h1']
  · rcases h2' with ⟨hh, _⟩ | ⟨b', cap', cur', hh, _, hg', _, _, _, ht'⟩
    · cases hh
    · cases hh
      rw [hg] at hg'
      cases hg'
      rw [← ht, ← ht']

/-- A node is taken: its block 'B', its parts, then what stands behind it. -/
theorem Take.node {g1 g2 g' : Gst} {Fs Fs1 : Nat → BSet} {B H0 : BSet} {cs cs' xs xs' : List AV} {us vs : List Value} {Fk Hs : Nat → BSet} {X : AV} {v0 : Value}
    (hS : SRc w I T g1 Fs1) (hH : Hand w I (RefAt w T) Fs1 cs us Fk) (hB : ∀ c, B c → (∃ t, Fs t c) ∧ (∀ t, ¬ Fs1 t c) ∧ (∀ k, k < cs.length → ¬ Fk k c) ∧ ¬ I c)
    (hsub : ∀ c, AllB Fs1 cs.length Fk c → (∃ t, Fs t c) ∨ H0 c) (hT : Hand w I (RefAt w T) Fs xs vs Hs) (hH0 : ∀ c, H0 c → (∀ t, ¬ Fs t c) ∧ ∀ k, k < xs.length → ¬ Hs k c)
    (ih1 : TakeOk w I T g1 cs cs' g2) (ih2 : TakeOk w I T g2 xs xs' g')
    (build : ∀ Hs' : Nat → BSet, (∀ (k : Nat) (x : AV) (u : Value), cs'[k]? = some x → us[k]? = some u → R w I (RefAt w T) x u (Hs' k)) → (∀ (j k c : Nat), j < cs'.length → k < cs'.length → Hs' j c → Hs' k c → j = k) →
      (∀ k c, k < cs'.length → Hs' k c → ¬ B c) → R w I (RefAt w T) X v0 (fun c => B c ∨ ∃ k, k < cs'.length ∧ Hs' k c)) :
    ∃ Fs' Hs', SRc w I T g' Fs' ∧ Hand w I (RefAt w T) Fs' (X :: xs') (v0 :: vs) Hs' ∧ ∀ c, AllB Fs' (X :: xs').length Hs' c → (∃ t, Fs t c) ∨ H0 c ∨ ∃ k, k < xs.length ∧ Hs k c := by
  obtain ⟨Fs2, H1, hS2, hH2, hall1⟩ := ih1 hS hH
  have off2 : ∀ k t c, k < xs.length → Hs k c → ¬ Fs2 t c := by
    intro k t c hk hc hf
    rcases hsub c (hall1 c (.inl ⟨t, hf⟩)) with ⟨t', h⟩ | h
    · exact hT.off k t' c hk hc h
    · exact (hH0 c h).2 k hk hc
  obtain ⟨Fs3, H3, hS3, hH3, hall2⟩ := ih2 hS2 (⟨hT.len, hT.rel, hT.dis, off2, hT.imm⟩ : Hand w I (RefAt w T) Fs2 xs vs Hs)
  have hBn : ∀ k c, k < cs'.length → H1 k c → ¬ B c := by
    intro k c hk hc hb
    obtain ⟨_, h1, h2, _⟩ := hB c hb
    rcases hall1 c (.inr ⟨k, hk, hc⟩) with ⟨t, h⟩ | ⟨j, hj, h⟩
    · exact h1 t h
    · exact h2 j hj h
  have hX := build H1 hH2.rel hH2.dis hBn
  -- the node's blocks: apart from all else
  have key : ∀ c, (B c ∨ ∃ k, k < cs'.length ∧ H1 k c) → (∀ t, ¬ Fs2 t c) ∧ (∀ k, k < xs.length → ¬ Hs k c) ∧ ¬ I c ∧ ((∃ t, Fs t c) ∨ H0 c) := by
    rintro c (hb | ⟨k, hk, hc⟩)
    · obtain ⟨⟨t0, h0⟩, h1, h2, h3⟩ := hB c hb
      refine ⟨fun t hf => ?_, fun k hk hc => hT.off k t0 c hk hc h0, h3, .inl ⟨t0, h0⟩⟩
      rcases hall1 c (.inl ⟨t, hf⟩) with ⟨t', h⟩ | ⟨j, hj, h⟩
      · exact h1 t' h
      · exact h2 j hj h
    · have hs := hsub c (hall1 c (.inr ⟨k, hk, hc⟩))
      refine ⟨fun t hf => hH2.off k t c hk hc hf, fun j hj hcj => ?_, hH2.imm k c hk hc, hs⟩
      rcases hs with ⟨t, h⟩ | h
      · exact hT.off j t c hj hcj h
      · exact (hH0 c h).2 j hj hcj
  have fin : ∀ c, (B c ∨ ∃ k, k < cs'.length ∧ H1 k c) → (∀ t, ¬ Fs3 t c) ∧ ∀ k, k < xs'.length → ¬ H3 k c := by
    intro c hc
    obtain ⟨h1, h2, _, _⟩ := key c hc
    have none : ¬ AllB Fs3 xs'.length H3 c := by
      intro h
      rcases hall2 c h with ⟨t, h⟩ | ⟨k, hk, h⟩
      · exact h1 t h
      · exact h2 k hk h
    exact ⟨fun t h => none (.inl ⟨t, h⟩), fun k hk h => none (.inr ⟨k, hk, h⟩)⟩
  refine ⟨Fs3, _, hS3, hH3.cons hX (fun k c hk hc => (fin c hc).2 k hk) (fun t c hc => (fin c hc).1 t) (fun c hc => (key c hc).2.2.1), ?_⟩
  have back : ∀ c, AllB Fs3 xs'.length H3 c → (∃ t, Fs t c) ∨ H0 c ∨ ∃ k, k < xs.length ∧ Hs k c := by
    intro c h
    rcases hall2 c h with ⟨t, h⟩ | h
    · rcases hsub c (hall1 c (.inl ⟨t, h⟩)) with h | h
      · exact .inl h
      · exact .inr (.inl h)
    · exact .inr (.inr h)
  rintro c (h | ⟨k, hk, hc⟩)
  · exact back c (.inl h)
  · cases k with
    | zero =>
      rcases (key c hc).2.2.2 with h | h
      · exact .inl h
      · exact .inr (.inl h)
    | succ k => exact back c (.inr ⟨k, by simpa using hk, hc⟩)
end
end Go.Own
