/-
  What is proved here: parts of the proof that QLa states last: rules for walks through code, and of this program's functions what they answer. No condition of their own.
-/
import Derived.KernelRfl
import Derived.ProofKit
import Derived.RowKit3
import Derived.Test.YtbhfhichpmffoaaE3
namespace Go.Proofs
open Go Go.Own
set_option maxRecDepth 100000
set_option linter.unusedVariables false
abbrev Rw := List Pair
structure RowOk (r : Rw) : Prop where
  at' : ∀ p ∈ r, 0 ≤ p.At ∧ p.At ≤ 999
  nd : (r.map (·.At)).Nodup
def Fit (chk : List Int) (r : Rw) (b : Nat) : Prop := ∀ p ∈ r, chk.getD (b + p.At.toNat) 0 = 0
theorem idx_nat {α : Type} {l : List α} {k : Nat} (h : k < l.length) : idx l (k : Int) = some l[k] := by simp [idx, h]
theorem c93 (p : Pair) (b : Nat) (chk : List Int) (hp : 0 ≤ p.At ∧ p.At ≤ 999) (hb : b ≤ 1000000000000) (hc : chk.length ≤ 1000000000000) : Tot (pf93 p b chk) fun c => (c = true ↔ chk.getD (b + p.At.toNat) 0 ≠ 0) := by
  unfold pf93
  have hw : w64 ((b : Int) + p.At) = ((b + p.At.toNat : Nat) : Int) := by rw [w64_eq]; omega
  rw [hw]
  refine .by' (Ξ := fun c => (c = true ↔ chk.getD (b + p.At.toNat) 0 ≠ 0)) (Tot.cp (fun h => ?_) (fun h => .so ?_)) fun c hc => .so hc
  · have hl : b + p.At.toNat < chk.length := by omega
    rw [idx_nat hl]
    refine Tot.sm (.so ?_)
    rw [List.getD_eq_getElem?_getD, List.getElem?_eq_getElem hl]
    simp
  · have hl : ¬ b + p.At.toNat < chk.length := by omega
    rw [List.getD_eq_getElem?_getD, List.getElem?_eq_none (by omega)]
    simp
theorem c68 (chk : List Int) (r : Rw) (b : Nat) (hr : ∀ p ∈ r, 0 ≤ p.At ∧ p.At ≤ 999) (hl : r.length ≤ 100000) (hb : b ≤ 1000000000000) (hc : chk.length ≤ 1000000000000) : Tot (pf68 chk r b) fun c => (c = true ↔ Fit chk r b) := by
  unfold pf68 pf92_93 pf126_93
  refine .by' (Ξ := fun x => x = true ↔ ¬ Fit chk r b) (.by' (Ξ := fun x => (x = -1 ∧ Fit chk r b) ∨ (0 ≤ x ∧ ¬ Fit chk r b)) ?_ fun x hx => .so ?_) fun x hx => .so ?_
  · refine Tot.by' (Tot.scan r (fun p => chk.getD (b + p.At.toNat) 0 = 0) (fun x : Int => 0 ≤ x ∧ ¬ Fit chk r b) (by omega) (fun s y h0 h1 hi hm => ?_) (fun s hs => by simp [hs])) fun x hx => ?_
    · refine Tot.cp (fun _ => ?_) (fun h => absurd h1 h)
      rw [hi]
      refine Tot.sm (.by' (c93 y b chk (hr y hm) hb hc) fun c hcc => Tot.cd (fun h => .so ⟨h0, fun hf => (hcc.1 h) (hf y hm)⟩) (fun h => .so ⟨?_, ?_⟩))
      · rw [w64_eq]; omega
      · exact Classical.byContradiction fun hn => by rw [hcc.2 hn] at h; cases h
    · rcases x with _ | x
      · exact .so (.inl ⟨rfl, hx⟩)
      · exact .so (.inr hx)
  · rcases hx with ⟨rfl, hf⟩ | ⟨h0, hf⟩
    · simp [hf]
    · simp [h0, hf]
  · cases x <;> simp_all
theorem c70 (chk : List Int) (r : Rw) (b : Nat) (hr : ∀ p ∈ r, 0 ≤ p.At ∧ p.At ≤ 999) (hl : r.length ≤ 100000) (hb : b ≤ 1000000000000) (hc : chk.length ≤ 1000000000000) : Tot (pf70 chk r b) fun c => (c = true ↔ Fit chk r b) := by
  unfold pf70
  refine Tot.by' (Tot.scan r (fun p => chk.getD (b + p.At.toNat) 0 = 0) (fun x : Bool => x = false ∧ ¬ Fit chk r b) (by omega) (fun s y h0 h1 hi hm => ?_) (fun s hs => by simp [hs])) fun x hx => ?_
  · refine Tot.cp (fun _ => ?_) (fun h => absurd h1 h)
    rw [hi]
    refine Tot.sm (.by' (Ξ := fun c => (c = true ↔ chk.getD (b + y.At.toNat) 0 ≠ 0)) ?_ fun c hcc => Tot.cd (fun h => .so ⟨rfl, fun hf => (hcc.1 h) (hf y hm)⟩) (fun h => .so ⟨?_, ?_⟩))
    · have := c93 y b chk (hr y hm) hb hc
      unfold pf93 at this
      obtain ⟨v, hv, hP⟩ := this
      simp only [Option.bind_eq_some_iff, Option.some.injEq] at hv
      obtain ⟨c, hc, rfl⟩ := hv
      exact ⟨c, hc, hP⟩
    · rw [w64_eq]; omega
    · exact Classical.byContradiction fun hn => by rw [hcc.2 hn] at h; cases h
  · rcases x with _ | x
    · exact .so ⟨fun _ => hx, fun _ => rfl⟩
    · obtain ⟨rfl, hf⟩ : x = false ∧ ¬ Fit chk r b := hx
      exact .so ⟨fun h => (by cases h), fun h => absurd h hf⟩
theorem c35 (l : List Int) (n : Int) (h : l.length ≤ 100000) : Tot (pf35 l n) fun c => (c = true ↔ n ∈ l) := by
  unfold pf35
  refine Tot.by' (Tot.scan l (fun x => x ≠ n) (fun x : Bool => x = true ∧ n ∈ l) (by omega) (fun s y h0 h1 hi hm => ?_) (fun s hs => by simp [hs])) fun x hx => ?_
  · refine Tot.cp (fun _ => ?_) (fun h => absurd h1 h)
    rw [hi]
    refine Tot.sm (Tot.cp (fun e => .so ⟨rfl, e ▸ hm⟩) (fun e => .so ⟨?_, e⟩))
    rw [w64_eq]; omega
  · rcases x with _ | x
    · have hx : ∀ y ∈ l, y ≠ n := hx
      exact .so ⟨fun h => (by cases h), fun h => absurd rfl (hx n h)⟩
    · obtain ⟨rfl, hm⟩ : x = true ∧ n ∈ l := hx
      exact .so ⟨fun _ => hm, fun _ => rfl⟩
theorem c48 (l : List Int) (h : l.length ≤ 100000000000000000) : Tot (pf48 l l) fun c => c = true := by
  unfold pf48
  refine Tot.cn (fun h => absurd rfl h) (fun _ => ?_)
  refine Tot.by' (Tot.scan l (fun _ => True) (fun _ => False) h (fun s y h0 h1 hi hm => ?_) (fun s hs => by simp [hs])) fun x hx => ?_
  · refine Tot.cp (fun _ => ?_) (fun h => absurd h1 h)
    rw [hi]
    refine Tot.sm (Tot.sm (Tot.cn (fun h => absurd rfl h) (fun _ => .so ⟨?_, trivial⟩)))
    rw [w64_eq]; omega
  · rcases x with _ | x
    · exact .so rfl
    · exact (hx : False).elim
theorem c40 (c : Comb) (h1 : c.Base.length ≤ 100000000000000000) (h2 : c.Val.length ≤ 100000000000000000) (h3 : c.Chk.length ≤ 100000000000000000) : Tot (pf40 c c) fun c => c = true := by
  unfold pf40
  refine .by' (Ξ := fun c => c = true) (.by' (c48 _ h1) fun x hx => Tot.cd (fun _ => .by' (c48 _ h2) fun y hy => Tot.cd (fun _ => .by' (c48 _ h3) fun z hz => .so hz) (fun h => by rw [hy] at h; cases h)) (fun h => by rw [hx] at h; cases h)) fun c hc => .so hc
theorem c62 (a b : Int) : pf62 a b = some (if a < b then -1 else if b < a then 1 else 0) := by
  unfold pf62
  have h : ∀ x, pf91 x = some false := fun x => by simp [pf91]
  rw [h, h]
  by_cases h1 : a < b
  · simp [h1]
  · by_cases h2 : b < a <;> simp [h1, h2]
theorem c67 (a b : Int) : pf67 [a, b] = some (if a = 0 then b else a) := by
  unfold pf67
  have l1 : ∀ (f : Int → Option (Int ⊕ (Unit ⊕ Int))), f 0 = (if a = 0 then some (.inl 1) else some (.inr (.inr a))) → f 1 = (if b = 0 then some (.inl 2) else some (.inr (.inr b))) → f 2 = some (.inr (.inl ())) → loopM f 0 = some (if a = 0 then (if b = 0 then .inl () else .inr b) else .inr a) := by
    intro f x y z
    show iter f (999999999999999997 + 1 + 1 + 1) _ = _
    by_cases ha : a = 0
    · by_cases hb : b = 0 <;> simp only [iter, x, y, z, ha, hb, if_true, if_false]
    · simp only [iter, x, ha, if_false]
  rw [l1 _ ?_ ?_ ?_]
  · by_cases ha : a = 0
    · by_cases hb : b = 0 <;> simp [ha, hb]
    · simp [ha]
  · show (bif decide ((0 : Int) < 2) then _ else _) = _
    have e : idx [a, b] 0 = some a := rfl
    simp only [e, Option.bind_some]
    by_cases ha : a = 0 <;> simp [ha]
    rfl
  · show (bif decide ((1 : Int) < 2) then _ else _) = _
    have e : idx [a, b] 1 = some b := rfl
    simp only [e, Option.bind_some]
    by_cases hb : b = 0 <;> simp [hb]
    rfl
  · rfl
def Bef (rows : List Rw) (a b : Int) : Prop := ∃ x y, idx rows a = some x ∧ idx rows b = some y ∧ (y.length < x.length ∨ (x.length = y.length ∧ a < b))
theorem idx_some' {α : Type} {l : List α} {i : Int} (h0 : 0 ≤ i) (h1 : i < l.length) : ∃ y, idx l i = some y ∧ y ∈ l := by
  have hlt : i.toNat < l.length := by omega
  exact ⟨l[i.toNat], by simp [idx, h0, hlt], List.getElem_mem hlt⟩
theorem c66 (rows : List Rw) (a b : Int) (ha : 0 ≤ a ∧ a < rows.length) (hb : 0 ≤ b ∧ b < rows.length) : ∃ v, pf66 a b rows = some v ∧ (v < 0 ↔ Bef rows a b) := by
  obtain ⟨x, hx, _⟩ := idx_some' ha.1 ha.2
  obtain ⟨y, hy, _⟩ := idx_some' hb.1 hb.2
  unfold pf66
  rw [hx, hy]
  simp only [Option.bind_some, c62, c67]
  have hB : Bef rows a b ↔ (y.length < x.length ∨ (x.length = y.length ∧ a < b)) := by
    unfold Bef
    rw [hx, hy]
    constructor
    · rintro ⟨x', y', e1, e2, h⟩
      cases e1; cases e2; exact h
    · intro h
      exact ⟨x, y, rfl, rfl, h⟩
  refine ⟨_, rfl, ?_⟩
  rw [hB]
  by_cases h1 : (y.length : Int) < x.length
  · simp only [h1, if_true]
    rw [if_neg (by decide)]
    constructor
    · intro _; exact .inl (by omega)
    · intro _; decide
  · by_cases h2 : (x.length : Int) < y.length
    · simp only [h1, h2, if_true, if_false]
      rw [if_neg (by decide)]
      constructor
      · intro h; exact absurd h (by decide)
      · rintro (h | ⟨h, _⟩) <;> omega
    · simp only [h1, h2, if_false, if_true]
      by_cases h3 : a < b
      · simp only [h3, if_true]
        constructor
        · intro _; exact .inr ⟨by omega, trivial⟩
        · intro _; decide
      · simp only [h3, if_false]
        constructor
        · intro h
          split at h <;> omega
        · rintro (h | ⟨_, h⟩)
          · omega
          · exact h.elim
end Go.Proofs
namespace Go.Proofs
open Go Go.Own
set_option maxRecDepth 100000
set_option linter.unusedVariables false
structure Put (c : Comb) (r : Rw) (i b : Nat) (v ch : List Int) : Prop where
  len : v.length = ch.length
  lo : c.Chk.length ≤ ch.length
  in' : ∀ p ∈ r, b + p.At.toNat < ch.length
  hi : ch.length = c.Chk.length ∨ ∃ p ∈ r, ch.length = b + p.At.toNat + 1
  chk : ∀ p ∈ r, ch.getD (b + p.At.toNat) 0 = (i : Int) + 1
  chn : ∀ k, (∀ p ∈ r, b + p.At.toNat ≠ k) → ch.getD k 0 = c.Chk.getD k 0
  val : ∀ p ∈ r, v.getD (b + p.At.toNat) 0 = p.Val
  van : ∀ k, (∀ p ∈ r, b + p.At.toNat ≠ k) → v.getD k 0 = c.Val.getD k 0
structure Step (r : Rw) (i : Nat) (c c' : Comb) (b : Nat) : Prop where
  fit : Fit c.Chk r b
  least : ∀ b', b' < b → ¬ Fit c.Chk r b'
  base : c'.Base = c.Base.set i (b : Int)
  put : Put c r i b c'.Val c'.Chk
theorem ext_getD {l m : List Int} (hl : l.length = m.length) (h : ∀ k, l.getD k 0 = m.getD k 0) : l = m := by
  apply List.ext_getElem hl
  intro k h1 h2
  have := h k
  simpa [List.getD_eq_getElem?_getD, List.getElem?_eq_getElem h1, List.getElem?_eq_getElem h2] using this
theorem Fit.same {chk : List Int} {r r' : Rw} (h : ∀ p, p ∈ r ↔ p ∈ r') {b : Nat} : Fit chk r b ↔ Fit chk r' b :=
  ⟨fun f p hp => f p ((h p).2 hp), fun f p hp => f p ((h p).1 hp)⟩
theorem Put.det {c : Comb} {r r' : Rw} {i b : Nat} {v ch v' ch' : List Int} (hl : c.Val.length = c.Chk.length) (hm : ∀ p, p ∈ r ↔ p ∈ r') (h : Put c r i b v ch) (h' : Put c r' i b v' ch') : v = v' ∧ ch = ch' := by
  have le : ∀ {r r' : Rw} {v ch v' ch' : List Int}, (∀ p, p ∈ r ↔ p ∈ r') → Put c r i b v ch → Put c r' i b v' ch' → ch'.length ≤ ch.length := by
    intro r r' v ch v' ch' hm h h'
    rcases h'.hi with e | ⟨p, hp, e⟩
    · rw [e]; exact h.lo
    · have := h.in' p ((hm p).2 hp); omega
  have hlen : ch.length = ch'.length := Nat.le_antisymm (le (fun p => (hm p).symm) h' h) (le hm h h')
  refine ⟨ext_getD (by rw [h.len, h'.len, hlen]) fun k => ?_, ext_getD hlen fun k => ?_⟩
  · by_cases hk : ∃ p ∈ r, b + p.At.toNat = k
    · obtain ⟨p, hp, rfl⟩ := hk
      rw [h.val p hp, h'.val p ((hm p).1 hp)]
    · have hk : ∀ p ∈ r, b + p.At.toNat ≠ k := fun p hp e => hk ⟨p, hp, e⟩
      rw [h.van k hk, h'.van k fun p hp => hk p ((hm p).2 hp)]
  · by_cases hk : ∃ p ∈ r, b + p.At.toNat = k
    · obtain ⟨p, hp, rfl⟩ := hk
      rw [h.chk p hp, h'.chk p ((hm p).1 hp)]
    · have hk : ∀ p ∈ r, b + p.At.toNat ≠ k := fun p hp e => hk ⟨p, hp, e⟩
      rw [h.chn k hk, h'.chn k fun p hp => hk p ((hm p).2 hp)]
theorem Step.det {r r' : Rw} {i b b' : Nat} {c c1 c2 : Comb} (hl : c.Val.length = c.Chk.length) (hm : ∀ p, p ∈ r ↔ p ∈ r') (h : Step r i c c1 b) (h' : Step r' i c c2 b') : b = b' ∧ c1 = c2 := by
  have hb : b = b' := by
    rcases Nat.lt_trichotomy b b' with hlt | e | hlt
    · exact absurd ((Fit.same hm).1 h.fit) (h'.least b hlt)
    · exact e
    · exact absurd ((Fit.same hm).2 h'.fit) (h.least b' hlt)
  subst hb
  obtain ⟨e1, e2⟩ := h.put.det hl hm h'.put
  refine ⟨rfl, ?_⟩
  cases c1; cases c2
  simp only at e1 e2
  have h1 := h.base
  have h2 := h'.base
  simp only at h1 h2
  subst e1 e2 h1
  rw [h2]
inductive Lst (rows : List Rw) : List Nat → Comb → Prop
  | nil : Lst rows [] ⟨List.replicate rows.length 0, [], []⟩
  | cons {i b : Nat} {l : List Nat} {c c' : Comb} {r : Rw} (hr : rows[i]? = some r) (hi : i ∉ l) (h : Lst rows l c) (hs : Step r i c c' b) : Lst rows (i :: l) c'
theorem Lst.len {rows : List Rw} {l : List Nat} {c : Comb} (h : Lst rows l c) : c.Val.length = c.Chk.length ∧ c.Base.length = rows.length := by
  induction h with
  | nil => simp
  | cons _ _ _ hs ih => exact ⟨hs.put.len, by rw [hs.base, List.length_set]; exact ih.2⟩
theorem Lst.det {rows rows' : List Rw} (hl : rows.length = rows'.length) (hm : ∀ (i : Nat) (r r' : Rw), rows[i]? = some r → rows'[i]? = some r' → ∀ p, p ∈ r ↔ p ∈ r') {l : List Nat} {c c' : Comb} (h : Lst rows l c) (h' : Lst rows' l c') : c = c' := by
  induction h generalizing c' with
  | nil => cases h' with | nil => rw [hl]
  | cons hr hi h hs ih =>
    cases h' with
    | cons hr' hi' h' hs' =>
      have := ih h'
      subst this
      exact (hs.det h.len.1 (hm _ _ _ hr hr') hs').2
theorem Lst.rest {rows : List Rw} {l : List Nat} {c : Comb} (h : Lst rows l c) : ∀ j, j < rows.length → j ∉ l → c.Base[j]? = some 0 := by
  induction h with
  | nil => intro j hj _; simp [hj]
  | @cons i b l c c' r hr hi h hs ih =>
    intro j hj hn
    rw [hs.base, List.getElem?_set_ne (by rintro rfl; exact hn (by simp))]
    exact ih j hj fun hh => hn (by simp [hh])
theorem pad (x y : Int) (K : Nat) (hK : w64 (x + y) = (K : Int)) (hK2 : K ≤ 1000000000) (v ch : List Int) (hl : v.length = ch.length) (hb : ch.length ≤ 1000000000) :
    Tot (loopM (R := List Int × List Int) (fun (s : List Int × List Int) =>
(bif decide ((s.2.length : Int) ≤ w64 (x + y)) then
(appO s.2 [0]).bind fun x38 =>
(appO s.1 [0]).bind fun x39 =>
some (.inl (s.1 ++ [0], s.2 ++ [0]))
else
some (.inr (s.1, s.2)))) (v, ch)) fun r => r.1.length = r.2.length ∧ r.2.length = max ch.length (K + 1) ∧ (∀ k, r.1.getD k 0 = v.getD k 0) ∧ ∀ k, r.2.getD k 0 = ch.getD k 0 := by
  have app : ∀ (l : List Int) k, (l ++ [0]).getD k 0 = l.getD k 0 := by
    intro l k
    rw [List.getD_eq_getElem?_getD, List.getD_eq_getElem?_getD]
    by_cases hk : k < l.length
    · rw [List.getElem?_append_left hk]
    · rw [List.getElem?_append_right (by omega), List.getElem?_eq_none (l := l) (by omega)]
      by_cases h0 : k - l.length = 0
      · rw [h0]; rfl
      · rw [List.getElem?_eq_none (by simp; omega)]
  refine Tot.loop (fun s => s.1.length = s.2.length ∧ ch.length ≤ s.2.length ∧ s.2.length ≤ max ch.length (K + 1) ∧ (∀ k, s.1.getD k 0 = v.getD k 0) ∧ ∀ k, s.2.getD k 0 = ch.getD k 0) (fun s => (K + 1) - s.2.length) ⟨hl, Nat.le_refl _, Nat.le_max_left _ _, fun _ => rfl, fun _ => rfl⟩ (by show (K + 1) - ch.length < 1000000000000000000; omega) fun s hs => ?_
  obtain ⟨h1, h2, h3, h4, h5⟩ := hs
  rw [hK]
  refine Tot.cp (fun hle => ?_) (fun hgt => .so ⟨h1, ?_, h4, h5⟩)
  · refine .by' (Ξ := fun _ => True) (Tot.ap (by simp [lim]; omega) trivial) fun _ _ => .by' (Ξ := fun _ => True) (Tot.ap (by simp [lim]; omega) trivial) fun _ _ => .so ⟨⟨?_, ?_, ?_, fun k => ?_, fun k => ?_⟩, ?_⟩
    · show (s.1 ++ [0]).length = (s.2 ++ [0]).length; simp [h1]
    · show ch.length ≤ (s.2 ++ [0]).length; simp; omega
    · show (s.2 ++ [0]).length ≤ _; simp; omega
    · exact (app _ _).trans (h4 k)
    · exact (app _ _).trans (h5 k)
    · show (K + 1) - (s.2 ++ [0]).length < (K + 1) - s.2.length
      simp; omega
  · show s.2.length = _; omega
theorem getD_set (l : List Int) (K k : Nat) (x : Int) (h : K < l.length) : (l.set K x).getD k 0 = if k = K then x else l.getD k 0 := by
  rw [List.getD_eq_getElem?_getD, List.getElem?_set]
  by_cases e : k = K
  · subst e; simp [h]
  · simp [e, Ne.symm e, List.getD_eq_getElem?_getD]
theorem Put.more {c : Comb} {r : Rw} {p : Pair} {i b : Nat} {v ch v' ch' : List Int} (h : Put c r i b v ch) (hp : ∀ q ∈ r, q.At.toNat ≠ p.At.toNat) (hl : v'.length = ch'.length) (hlen : ch'.length = max ch.length (b + p.At.toNat + 1)) (hv : ∀ k, v'.getD k 0 = v.getD k 0) (hc : ∀ k, ch'.getD k 0 = ch.getD k 0) :
    Put c (r ++ [p]) i b (v'.set (b + p.At.toNat) p.Val) (ch'.set (b + p.At.toNat) ((i : Int) + 1)) := by
  have hK : b + p.At.toNat < ch'.length := by omega
  have mem : ∀ {Q : Pair → Prop}, (∀ q ∈ r, Q q) → Q p → ∀ q ∈ r ++ [p], Q q := fun h1 h2 q hq => by
    rcases List.mem_append.1 hq with hq | hq
    · exact h1 q hq
    · rw [List.mem_singleton.1 hq]; exact h2
  refine ⟨by simp [hl], ?_, mem (fun q hq => ?_) ?_, ?_, mem (fun q hq => ?_) ?_, fun k hk => ?_, mem (fun q hq => ?_) ?_, fun k hk => ?_⟩
  · rw [List.length_set]; have := h.lo; omega
  · rw [List.length_set]; have := h.in' q hq; omega
  · rw [List.length_set]; exact hK
  · rw [List.length_set]
    by_cases hm : ch.length ≤ b + p.At.toNat + 1
    · exact .inr ⟨p, by simp, by omega⟩
    · rcases h.hi with e | ⟨q, hq, e⟩
      · exact .inl (by omega)
      · exact .inr ⟨q, by simp [hq], by omega⟩
  · rw [getD_set _ _ _ _ hK, if_neg (by have := hp q hq; omega), hc]; exact h.chk q hq
  · rw [getD_set _ _ _ _ hK, if_pos rfl]
  · rw [getD_set _ _ _ _ hK, if_neg (fun e => hk p (by simp) e.symm), hc]; exact h.chn k fun q hq => hk q (by simp [hq])
  · rw [getD_set _ _ _ _ (by rw [hl]; exact hK), if_neg (by have := hp q hq; omega), hv]; exact h.val q hq
  · rw [getD_set _ _ _ _ (by rw [hl]; exact hK), if_pos rfl]
  · rw [getD_set _ _ _ _ (by rw [hl]; exact hK), if_neg (fun e => hk p (by simp) e.symm), hv]; exact h.van k fun q hq => hk q (by simp [hq])
theorem Put.nil (c : Comb) (i b : Nat) (hl : c.Val.length = c.Chk.length) : Put c [] i b c.Val c.Chk :=
  ⟨hl, Nat.le_refl _, fun _ h => absurd h (by simp), .inl rfl, fun _ h => absurd h (by simp), fun _ _ => rfl, fun _ h => absurd h (by simp), fun _ _ => rfl⟩
theorem Fit.far {chk : List Int} {r : Rw} {b : Nat} (h : chk.length ≤ b) : Fit chk r b := fun p _ => by
  rw [List.getD_eq_getElem?_getD, List.getElem?_eq_none (by omega)]; rfl
theorem set_nd {r : Rw} {k : Nat} (hr : RowOk r) (hk : k < r.length) : ∀ q ∈ r.take k, q.At.toNat ≠ (r[k]).At.toNat := by
  intro q hq e
  obtain ⟨j, hj, rfl⟩ := List.mem_iff_getElem.1 hq
  rw [List.length_take] at hj
  have hjl : j < r.length := by omega
  rw [List.getElem_take] at e
  have h1 := hr.at' _ (List.getElem_mem hjl)
  have h2 := hr.at' _ (List.getElem_mem hk)
  have hnd := hr.nd
  have := (List.getElem_inj (h₀ := by simpa using hjl) (h₁ := by simpa using hk) hnd).1 (by simp only [List.getElem_map]; omega)
  omega
end Go.Proofs
namespace Go.Proofs
open Go Go.Own
set_option maxRecDepth 100000
set_option linter.unusedVariables false
structure RowsOk (rows : List Rw) : Prop where
  n : rows.length ≤ 400
  rows : ∀ r ∈ rows, RowOk r
structure RowsB (rows : List Rw) : Prop where
  n : rows.length ≤ 1000
  r : ∀ r ∈ rows, r.length ≤ 1000
theorem seek (rows : List Rw) (hB : RowsB rows) (i : Nat) (r : Rw) (hr : rows[i]? = some r) (hro : RowOk r) (c : Comb) (hc : c.Chk.length ≤ 900000) (h0 : c.Base[i]? = some 0) (fits : List Int → Rw → Int → Option Bool)
    (hf : ∀ b : Nat, b ≤ 1000000 → Tot (fits c.Chk r b) fun x => (x = true ↔ Fit c.Chk r b)) :
    Tot (loopM (R := List Int) (fun (s19 : List Int) =>
(idx rows (i : Int)).bind fun x22 =>
(idx s19 (i : Int)).bind fun x23 =>
(fits c.Chk x22 x23).bind fun x24 =>
(bif !x24 then
(idx s19 (i : Int)).bind fun x26 =>
some (.inl (s19.set (i : Int).toNat (w64 (x26 + 1))))
else
some (.inr s19))) c.Base) fun B => ∃ b : Nat, B = c.Base.set i (b : Int) ∧ Fit c.Chk r b ∧ (∀ b', b' < b → ¬ Fit c.Chk r b') ∧ b ≤ c.Chk.length := by
  have hil : i < c.Base.length := (List.getElem?_eq_some_iff.1 h0).1
  have hidx : idx rows (i : Int) = some r := by simp [idx, hr]
  have hself : c.Base = c.Base.set i 0 := by
    apply List.ext_getElem?
    intro k
    rw [List.getElem?_set]
    by_cases e : i = k
    · subst e; rw [h0]; simp [hil]
    · simp [e]
  have key : Tot (loopM (R := List Int) (fun (s19 : List Int) =>
(idx rows (i : Int)).bind fun x22 =>
(idx s19 (i : Int)).bind fun x23 =>
(fits c.Chk x22 x23).bind fun x24 =>
(bif !x24 then
(idx s19 (i : Int)).bind fun x26 =>
some (.inl (s19.set (i : Int).toNat (w64 (x26 + 1))))
else
some (.inr s19))) (c.Base.set i 0)) fun B => ∃ b : Nat, B = c.Base.set i (b : Int) ∧ Fit c.Chk r b ∧ (∀ b', b' < b → ¬ Fit c.Chk r b') ∧ b ≤ c.Chk.length := by
    refine Tot.loop (fun s => ∃ b : Nat, s = c.Base.set i (b : Int) ∧ (∀ b', b' < b → ¬ Fit c.Chk r b') ∧ b ≤ c.Chk.length) (fun s => c.Chk.length + 1 - (s.getD i 0).toNat) ⟨0, rfl, fun b' h => absurd h (Nat.not_lt_zero _), Nat.zero_le _⟩ (by show c.Chk.length + 1 - _ < 1000000000000000000; omega) fun s hs => ?_
    obtain ⟨b, rfl, hl, hb⟩ := hs
    have hsi : idx (c.Base.set i (b : Int)) (i : Int) = some (b : Int) := by
      simp [idx, hil]
    rw [hidx, hsi]
    refine Tot.sm (Tot.sm (.by' (hf b (by omega)) fun x hx => ?_))
    refine Tot.cd (fun h => Tot.sm (.so ⟨⟨b + 1, ?_, fun b' hb' => ?_, ?_⟩, ?_⟩)) (fun h => .so ⟨b, rfl, hx.1 (by simpa using h), hl, hb⟩)
    · have hw : w64 ((b : Int) + 1) = ((b + 1 : Nat) : Int) := by rw [w64_eq]; omega
      rw [hw]
      show (c.Base.set i (b : Int)).set i _ = _
      rw [List.set_set]
    · by_cases e : b' = b
      · subst e
        intro hfit
        rw [hx.2 hfit] at h; cases h
      · exact hl b' (by omega)
    · have : ¬ c.Chk.length ≤ b := fun h' => by
        rw [hx.2 (Fit.far h')] at h; cases h
      omega
    · have hw : w64 ((b : Int) + 1) = ((b + 1 : Nat) : Int) := by rw [w64_eq]; omega
      rw [hw]
      show c.Chk.length + 1 - ((((c.Base.set i (b : Int)).set i ((b + 1 : Nat) : Int)).getD i 0).toNat) < c.Chk.length + 1 - ((c.Base.set i (b : Int)).getD i 0).toNat
      rw [List.set_set]
      have g : ∀ x : Int, (c.Base.set i x).getD i 0 = x := fun x => by simp [List.getD_eq_getElem?_getD, hil]
      rw [g, g]
      have : ¬ c.Chk.length ≤ b := fun h' => by
        rw [hx.2 (Fit.far h')] at h; cases h
      omega
  rw [← hself] at key
  exact key
theorem putl (r : Rw) (hro : RowOk r) (hrl : r.length ≤ 1000) (i b : Nat) (hi : i ≤ 100000) (c : Comb) (hcl : c.Val.length = c.Chk.length) (hc : c.Chk.length ≤ 900000) (hb : b ≤ c.Chk.length)
    (f : List Int × List Int × Int → Option ((List Int × List Int × Int) ⊕ (List Int × List Int)))
    (hf : ∀ (v ch : List Int) (k : Nat) (hk : k < r.length), f (v, ch, (k : Int)) = (loopM (R := List Int × List Int) (fun (s : List Int × List Int) =>
(bif decide ((s.2.length : Int) ≤ w64 ((b : Int) + (r[k]).At)) then
(appO s.2 [0]).bind fun x38 =>
(appO s.1 [0]).bind fun x39 =>
some (.inl (s.1 ++ [0], s.2 ++ [0]))
else
some (.inr (s.1, s.2)))) (v, ch)).bind fun x35 =>
(idx x35.2 (w64 ((b : Int) + (r[k]).At))).bind fun x40 =>
(idx x35.1 (w64 ((b : Int) + (r[k]).At))).bind fun x41 =>
some (.inl (x35.1.set (w64 ((b : Int) + (r[k]).At)).toNat (r[k]).Val, x35.2.set (w64 ((b : Int) + (r[k]).At)).toNat (w64 ((i : Int) + 1)), w64 ((k : Int) + 1))))
    (he : ∀ (v ch : List Int) (k : Int), ¬ k < r.length → f (v, ch, k) = some (.inr (v, ch))) :
    Tot (loopM f (c.Val, c.Chk, 0)) fun x => Put c r i b x.1 x.2 ∧ x.2.length ≤ c.Chk.length + 1000 := by
  refine Tot.count (fun s => s.2.2) r.length (fun s => ∃ k : Nat, k ≤ r.length ∧ s.2.2 = (k : Int) ∧ Put c (r.take k) i b s.1 s.2.1) ⟨0, Nat.zero_le _, rfl, Put.nil c i b hcl⟩ (by show (r.length : Int) - 0 < _; omega) fun s hs => ?_
  obtain ⟨v, ch, k'⟩ := s
  obtain ⟨k, hk, rfl, hP⟩ := hs
  simp only at hP ⊢
  by_cases hlt : k < r.length
  · rw [hf v ch k hlt]
    have hp := hro.at' _ (List.getElem_mem hlt)
    have hK : w64 ((b : Int) + (r[k]).At) = ((b + (r[k]).At.toNat : Nat) : Int) := by rw [w64_eq]; omega
    have hchl : ch.length ≤ 1000000 := by
      rcases hP.hi with e | ⟨q, hq, e⟩
      · omega
      · have := hro.at' q (List.mem_of_mem_take hq); omega
    refine .by' (pad _ _ _ hK (by omega) v ch hP.len (by omega)) fun x hx => ?_
    obtain ⟨h1, h2, h3, h4⟩ := hx
    rw [hK]
    have hlt2 : b + (r[k]).At.toNat < x.2.length := by omega
    have hlt1 : b + (r[k]).At.toNat < x.1.length := by omega
    rw [idx_nat hlt2, idx_nat hlt1]
    have hwi : w64 ((i : Int) + 1) = (i : Int) + 1 := by rw [w64_eq]; omega
    have hwk : w64 ((k : Int) + 1) = ((k + 1 : Nat) : Int) := by rw [w64_eq]; omega
    rw [hwi, hwk]
    refine Tot.sm (Tot.sm (.so ⟨⟨k + 1, by omega, rfl, ?_⟩, ?_, ?_⟩))
    · rw [List.take_add_one, List.getElem?_eq_getElem hlt]
      exact hP.more (set_nd hro hlt) h1 h2 h3 h4
    · show (k : Int) < ((k + 1 : Nat) : Int); omega
    · show ((k + 1 : Nat) : Int) ≤ _; omega
  · rw [he v ch k (by omega)]
    have : k = r.length := by omega
    subst this
    rw [List.take_length] at hP
    refine .so ⟨hP, ?_⟩
    show ch.length ≤ c.Chk.length + 1000
    rcases hP.hi with e | ⟨q, hq, e⟩
    · omega
    · have := hro.at' q hq; omega
end Go.Proofs
namespace Go.Proofs
open Go Go.Own
set_option maxRecDepth 100000
set_option linter.unusedVariables false
theorem RowOk.snoc {r : Rw} {p : Pair} (h : RowOk r) (hp : 0 ≤ p.At ∧ p.At ≤ 999) (hn : p.At ∉ r.map (·.At)) : RowOk (r ++ [p]) := by
  refine ⟨fun q hq => ?_, ?_⟩
  · rcases List.mem_append.1 hq with hq | hq
    · exact h.at' q hq
    · rw [List.mem_singleton.1 hq]; exact hp
  · rw [List.map_append, List.nodup_append]
    refine ⟨h.nd, by simp, fun a ha b hb e => ?_⟩
    have hb : b ∈ [p.At] := hb
    rw [List.mem_singleton.1 hb] at e
    exact hn (e ▸ ha)
theorem RowOk.nil : RowOk [] := ⟨fun _ h => absurd h (by simp), by simp⟩
theorem RowOk.bad {r : Rw} {k : Nat} (hk : k < r.length) (h : ¬ (0 ≤ (r[k]).At ∧ (r[k]).At ≤ 999) ∨ (r[k]).At ∈ (r.take k).map (·.At)) : ¬ RowOk r := by
  intro hr
  rcases h with h | h
  · exact h (hr.at' _ (List.getElem_mem hk))
  · obtain ⟨q, hq, e⟩ := List.mem_map.1 h
    exact set_nd hr hk q hq (by have e : q.At = (r[k]).At := e; rw [e])
theorem rows_bad {rows : List Rw} {r : Rw} (hr : r ∈ rows) (h : ¬ RowOk r) : ¬ RowsOk rows := fun hh => h (hh.rows r hr)
theorem take_snoc {r : Rw} {k : Nat} (h : k < r.length) : r.take (k + 1) = r.take k ++ [r[k]] := by
  rw [List.take_add_one, List.getElem?_eq_getElem h]; rfl
theorem c65 (rows : List Rw) (hB : RowsB rows) : Tot (pf65 rows) fun c => (c = true ↔ RowsOk rows) := by
  unfold pf65
  have hn := hB.n
  refine Tot.cp (fun h => .so ⟨fun h => (by cases h), fun hh => by have := hh.n; omega⟩) (fun h400 => ?_)
  refine Tot.by' (Tot.scan rows RowOk (fun x : Bool => x = false ∧ ¬ RowsOk rows) (by omega) (fun s r h0 h1 hi hm => ?_) (fun s hs => by simp [hs])) fun x hx => ?_
  · refine Tot.cp (fun _ => ?_) (fun h => absurd h1 h)
    rw [hi]
    have hrl := hB.r r hm
    refine Tot.sm (.by' (Ξ := LR (fun _ => RowOk r) (fun x : Bool => x = false ∧ ¬ RowsOk rows)) ?_ fun x hx => ?_)
    · refine Tot.count (fun s => s.2) r.length (fun s => ∃ k : Nat, k ≤ r.length ∧ s.2 = (k : Int) ∧ s.1.length = 1000 ∧ RowOk (r.take k) ∧ ∀ j, j < 1000 → (s.1.getD j false = true ↔ (j : Int) ∈ (r.take k).map (·.At))) ⟨0, Nat.zero_le _, rfl, List.length_replicate .., RowOk.nil, fun j hj => by
      show ((List.replicate 1000 false).getD j false = true ↔ _)
      rw [List.getD_eq_getElem?_getD, List.getElem?_replicate, if_pos hj]
      simp⟩ (by show (r.length : Int) - 0 < _; omega) fun s hs => ?_
      obtain ⟨met, k'⟩ := s
      obtain ⟨k, hk, rfl, hml, hok, hmet⟩ := hs
      simp only at hml hmet ⊢
      refine Tot.cp (fun hlt => ?_) (fun hge => .so ?_)
      · have hlt : k < r.length := by omega
        rw [idx_nat hlt]
        have hw : w64 ((k : Int) + 1) = ((k + 1 : Nat) : Int) := by rw [w64_eq]; omega
        rw [hw]
        have hA : 0 ≤ (r[k]).At ∧ (r[k]).At ≤ 999 → idxA 1000 met (r[k]).At = some (met.getD (r[k]).At.toNat false) := by
          intro h
          unfold idxA
          rw [if_pos (by omega)]
          have : (r[k]).At.toNat < met.length := by omega
          simp [idx, h.1, this, List.getD_eq_getElem?_getD]
        refine Tot.sm (.by' (Ξ := fun c => (c = true ↔ (¬ (0 ≤ (r[k]).At ∧ (r[k]).At ≤ 999) ∨ (r[k]).At ∈ (r.take k).map (·.At)))) ?_ fun c hc => Tot.cd (fun h => .so ⟨rfl, rows_bad hm (RowOk.bad hlt (hc.1 h))⟩) (fun h => ?_))
        · refine Tot.cp (fun h => .so ⟨fun _ => .inl (by omega), fun _ => rfl⟩) (fun h => Tot.cp (fun h' => .so ⟨fun _ => .inl (by omega), fun _ => rfl⟩) (fun h' => ?_))
          have hp : 0 ≤ (r[k]).At ∧ (r[k]).At ≤ 999 := by omega
          rw [hA hp]
          refine Tot.sm (.so ?_)
          rw [hmet _ (by omega)]
          have e : (((r[k]).At.toNat : Nat) : Int) = (r[k]).At := by omega
          rw [e]
          exact ⟨fun h => .inr h, fun h => h.resolve_left fun hn => hn hp⟩
        · have hgood : (0 ≤ (r[k]).At ∧ (r[k]).At ≤ 999) ∧ (r[k]).At ∉ (r.take k).map (·.At) := by
            refine ⟨Classical.byContradiction fun hn => ?_, fun hn => ?_⟩
            · rw [hc.2 (.inl hn)] at h; cases h
            · rw [hc.2 (.inr hn)] at h; cases h
          obtain ⟨hp, hn⟩ := hgood
          rw [hA hp]
          refine Tot.sm (.so ⟨⟨k + 1, by omega, rfl, by show (met.set _ _).length = _; simp [hml], ?_, fun j hj => ?_⟩, ?_, ?_⟩)
          · rw [take_snoc hlt]; exact hok.snoc hp hn
          · show ((met.set (r[k]).At.toNat true).getD j false = true ↔ _)
            rw [take_snoc hlt, List.map_append, List.mem_append, List.getD_eq_getElem?_getD, List.getElem?_set]
            by_cases e : (r[k]).At.toNat = j
            · subst e
              have hl : (r[k]).At.toNat < met.length := by omega
              have e2 : (((r[k]).At.toNat : Nat) : Int) = (r[k]).At := by omega
              rw [if_pos rfl, if_pos hl, e2]
              simp
            · rw [if_neg e, ← List.getD_eq_getElem?_getD, hmet j hj]
              constructor
              · exact .inl
              · rintro (h | h)
                · exact h
                · have h : (j : Int) ∈ [(r[k]).At] := h
                  have := List.mem_singleton.1 h
                  omega
          · show (k : Int) < ((k + 1 : Nat) : Int); omega
          · show ((k + 1 : Nat) : Int) ≤ _; omega
      · have : k = r.length := by omega
        subst this
        rw [List.take_length] at hok
        exact hok
    · rcases x with _ | x
      · exact .so ⟨by rw [w64_eq]; omega, hx⟩
      · exact .so hx
  · rcases x with _ | x
    · have hx : ∀ r ∈ rows, RowOk r := hx
      exact .so ⟨fun _ => ⟨by omega, hx⟩, fun _ => rfl⟩
    · obtain ⟨rfl, hb⟩ : x = false ∧ ¬ RowsOk rows := hx
      exact .so ⟨fun h => (by cases h), fun h => absurd h hb⟩
theorem c69 (rows : List Rw) (hB : RowsB rows) : Tot (pf69 rows) fun c => (c = true ↔ RowsOk rows) := by
  unfold pf69
  have hn := hB.n
  refine Tot.cp (fun h => .so ⟨fun h => (by cases h), fun hh => by have := hh.n; omega⟩) (fun h400 => ?_)
  refine Tot.by' (Tot.scan rows RowOk (fun x : Bool => x = false ∧ ¬ RowsOk rows) (by omega) (fun s r h0 h1 hi hm => ?_) (fun s hs => by simp [hs])) fun x hx => ?_
  · refine Tot.cp (fun _ => ?_) (fun h => absurd h1 h)
    have hrl := hB.r r hm
    refine .by' (Ξ := LR (fun _ => RowOk r) (fun x : Bool => x = false ∧ ¬ RowsOk rows)) ?_ fun x hx => ?_
    · refine Tot.count (fun s => s.2) r.length (fun s => ∃ k : Nat, k ≤ r.length ∧ s.2 = (k : Int) ∧ RowOk (r.take k) ∧ s.1 = (r.take k).map (·.At)) ⟨0, Nat.zero_le _, rfl, RowOk.nil, rfl⟩ (by show (r.length : Int) - 0 < _; omega) fun s hs => ?_
      obtain ⟨l, k'⟩ := s
      obtain ⟨k, hk, rfl, hok, rfl⟩ := hs
      simp only
      rw [hi]
      refine Tot.sm (Tot.cp (fun hlt => ?_) (fun hge => .so ?_))
      · have hlt : k < r.length := by omega
        have hw : w64 ((k : Int) + 1) = ((k + 1 : Nat) : Int) := by rw [w64_eq]; omega
        rw [hw]
        simp only [Option.bind_some, idx_nat hlt]
        have hll : ((r.take k).map (·.At)).length ≤ 1000 := by rw [List.length_map, List.length_take]; omega
        refine .by' (Ξ := fun c => (c = true ↔ (¬ (0 ≤ (r[k]).At ∧ (r[k]).At ≤ 999) ∨ (r[k]).At ∈ (r.take k).map (·.At)))) ?_ fun c hc => Tot.cd (fun h => .so ⟨rfl, rows_bad hm (RowOk.bad hlt (hc.1 h))⟩) (fun h => ?_)
        · refine Tot.cp (fun h => .so ⟨fun _ => .inl (by omega), fun _ => rfl⟩) (fun h => Tot.cp (fun h' => .so ⟨fun _ => .inl (by omega), fun _ => rfl⟩) (fun h' => ?_))
          have hp : 0 ≤ (r[k]).At ∧ (r[k]).At ≤ 999 := by omega
          refine .by' (c35 _ (r[k]).At (by omega)) fun c hc => .so ?_
          rw [hc]
          exact ⟨fun h => .inr h, fun h => h.resolve_left fun hn => hn hp⟩
        · have hgood : (0 ≤ (r[k]).At ∧ (r[k]).At ≤ 999) ∧ (r[k]).At ∉ (r.take k).map (·.At) := by
            refine ⟨Classical.byContradiction fun hn => ?_, fun hn => ?_⟩
            · rw [hc.2 (.inl hn)] at h; cases h
            · rw [hc.2 (.inr hn)] at h; cases h
          obtain ⟨hp, hn⟩ := hgood
          refine .by' (Ξ := fun _ => True) (Tot.ap (by simp [lim]; omega) trivial) fun _ _ => .so ⟨⟨k + 1, by omega, rfl, ?_, ?_⟩, ?_, ?_⟩
          · rw [take_snoc hlt]; exact hok.snoc hp hn
          · show (r.take k).map (·.At) ++ [(r[k]).At] = _
            rw [take_snoc hlt, List.map_append]; rfl
          · show (k : Int) < ((k + 1 : Nat) : Int); omega
          · show ((k + 1 : Nat) : Int) ≤ _; omega
      · have : k = r.length := by omega
        subst this
        rw [List.take_length] at hok
        exact hok
    · rcases x with _ | x
      · exact .so ⟨by rw [w64_eq]; omega, hx⟩
      · exact .so hx
  · rcases x with _ | x
    · have hx : ∀ r ∈ rows, RowOk r := hx
      exact .so ⟨fun _ => ⟨by omega, hx⟩, fun _ => rfl⟩
    · obtain ⟨rfl, hb⟩ : x = false ∧ ¬ RowsOk rows := hx
      exact .so ⟨fun h => (by cases h), fun h => absurd h hb⟩
end Go.Proofs
namespace Go.Proofs
open Go Go.Own Go.Sort
set_option maxRecDepth 100000
set_option linter.unusedVariables false
def lenI (rows : List Rw) (a : Int) : Nat := ((idx rows a).map List.length).getD 0
def ltK (rows : List Rw) (a b : Int) : Bool := decide (lenI rows b < lenI rows a ∨ (lenI rows a = lenI rows b ∧ a < b))
theorem ltK_iff {rows : List Rw} {a b : Int} : ltK rows a b = true ↔ (lenI rows b < lenI rows a ∨ (lenI rows a = lenI rows b ∧ a < b)) := by simp [ltK]
theorem ltK_not {rows : List Rw} {a b : Int} : ltK rows a b = false ↔ ¬ (lenI rows b < lenI rows a ∨ (lenI rows a = lenI rows b ∧ a < b)) := by simp [ltK]
theorem ltK_swo (rows : List Rw) : SWO (ltK rows) where
  irrefl x := by rw [ltK_not]; omega
  trans x y z h1 h2 := by rw [ltK_iff] at *; omega
  ntrans x y z h1 h2 := by rw [ltK_not] at *; omega
theorem ltK_tot {rows : List Rw} {a b : Int} (h1 : ltK rows a b = false) (h2 : ltK rows b a = false) : a = b := by
  rw [ltK_not] at *; omega
theorem c66' (rows : List Rw) (a b : Int) (ha : 0 ≤ a ∧ a < rows.length) (hb : 0 ≤ b ∧ b < rows.length) : ∃ v, pf66 a b rows = some v ∧ (v < 0 ↔ ltK rows a b = true) := by
  obtain ⟨v, hv, h⟩ := c66 rows a b ha hb
  refine ⟨v, hv, h.trans ?_⟩
  obtain ⟨x, hx, _⟩ := idx_some' ha.1 ha.2
  obtain ⟨y, hy, _⟩ := idx_some' hb.1 hb.2
  rw [ltK_iff]
  unfold Bef lenI
  rw [hx, hy]
  constructor
  · rintro ⟨x', y', e1, e2, h⟩
    cases e1; cases e2; exact h
  · intro h
    exact ⟨x, y, rfl, rfl, h⟩
theorem ins_congr {α : Type} {lt lt' : α → α → Bool} (x : α) : ∀ l : List α, (∀ y ∈ l, lt y x = lt' y x) → ins lt x l = ins lt' x l
  | [], _ => rfl
  | y :: l, h => by
    simp only [ins, h y (by simp)]
    rw [ins_congr x l fun z hz => h z (by simp [hz])]
theorem isort_congr {α : Type} {lt lt' : α → α → Bool} : ∀ l : List α, (∀ a ∈ l, ∀ b ∈ l, lt a b = lt' a b) → isort lt l = isort lt' l
  | [], _ => rfl
  | x :: l, h => by
    simp only [isort]
    rw [isort_congr l fun a ha b hb => h a (by simp [ha]) b (by simp [hb])]
    exact ins_congr x _ fun y hy => h y (by simp [(isort_perm lt' l).mem_iff.1 hy]) x (by simp)
structure Ordr (rows : List Rw) (o : List Nat) : Prop where
  mem : ∀ i, i ∈ o ↔ ∃ r, rows[i]? = some r ∧ r ≠ []
  nd : o.Nodup
  pw : o.Pairwise fun (a b : Nat) => ltK rows (b : Int) (a : Int) = false
theorem Ordr.uniq {rows : List Rw} {o o' : List Nat} (h : Ordr rows o) (h' : Ordr rows o') : o = o' :=
  List.Perm.eq_of_pairwise (le := fun (a b : Nat) => ltK rows (b : Int) (a : Int) = false) (fun a b _ _ h1 h2 => by have := ltK_tot h2 h1; omega) h.pw h'.pw ((List.perm_ext_iff_of_nodup h.nd h'.nd).2 fun i => (h.mem i).trans (h'.mem i).symm)
theorem Ordr.lt {rows : List Rw} {o : List Nat} (h : Ordr rows o) {i : Nat} (hi : i ∈ o) : i < rows.length := by
  obtain ⟨r, hr, _⟩ := (h.mem i).1 hi
  exact (List.getElem?_eq_some_iff.1 hr).1
theorem Ordr.len {rows : List Rw} {o : List Nat} (h : Ordr rows o) : o.length ≤ rows.length := by
  have : ∀ (l m : List Nat), l.Nodup → (∀ x ∈ l, x ∈ m) → l.length ≤ m.length := by
    intro l
    induction l with
    | nil => intro m _ _; exact Nat.zero_le _
    | cons x l ih =>
      intro m hd hm
      have hx := hm x (by simp)
      have hd' := List.nodup_cons.1 hd
      have := ih (m.erase x) hd'.2 fun y hy => (List.mem_erase_of_ne (fun e => hd'.1 (by rw [← e]; exact hy))).2 (hm y (by simp [hy]))
      have hl := List.length_erase_of_mem hx
      have hp := List.length_pos_of_mem hx
      simp only [List.length_cons]
      omega
  have := this o (List.range rows.length) h.nd fun x hx => by simpa using h.lt hx
  simpa using this
theorem sortK (rows : List Rw) (l : List Int) (hl : ∀ a ∈ l, 0 ≤ a ∧ a < rows.length) (hn : l.length ≤ 100000) : sortO (fun a b => pf66 a b rows) l = some (isort (ltK rows) l) := by
  have hlt : ∀ a ∈ l, ∀ b ∈ l, ltO (fun a b => pf66 a b rows) a b = ltK rows a b := by
    intro a ha b hb
    obtain ⟨v, hv, h⟩ := c66' rows a b (hl a ha) (hl b hb)
    unfold ltO
    simp only [hv, Option.getD_some]
    cases hk : ltK rows a b with
    | true => exact decide_eq_true (h.2 hk)
    | false => exact decide_eq_false fun hh => by rw [h.1 hh] at hk; cases hk
  unfold sortO
  rw [if_pos]
  · rw [isort_congr l hlt]
  · simp only [Bool.and_eq_true, decide_eq_true_eq, List.all_eq_true]
    refine ⟨⟨fun a ha b hb => ?_, ?_⟩, by omega⟩
    · obtain ⟨v, hv, _⟩ := c66' rows a b (hl a ha) (hl b hb)
      rw [hv]; rfl
    · unfold ordB
      simp only [List.all_eq_true, Bool.and_eq_true, Bool.or_eq_true, Bool.not_eq_true', decide_eq_true_eq]
      have hS := ltK_swo rows
      intro a ha
      refine ⟨by rw [hlt a ha a ha]; exact hS.irrefl a, fun b hb => ⟨?_, fun c hc => ⟨?_, ?_⟩⟩⟩
      · rw [hlt a ha b hb, hlt b hb a ha]
        cases h1 : ltK rows a b with
        | true => exact .inl (.inl rfl)
        | false =>
          cases h2 : ltK rows b a with
          | true => exact .inl (.inr rfl)
          | false => exact .inr (ltK_tot h1 h2)
      · rw [hlt a ha b hb, hlt b hb c hc, hlt a ha c hc]
        cases h1 : ltK rows a b with
        | false => exact .inl rfl
        | true =>
          cases h2 : ltK rows b c with
          | false => exact .inl rfl
          | true => exact .inr (hS.trans _ _ _ h1 h2)
      · rw [hlt a ha b hb, hlt b hb c hc, hlt a ha c hc]
        cases h1 : ltK rows a b with
        | true => exact .inl (.inl rfl)
        | false =>
          cases h2 : ltK rows b c with
          | true => exact .inl (.inr rfl)
          | false => exact .inr (hS.ntrans _ _ _ h1 h2)
theorem c41 (rows : List Rw) (hB : RowsB rows) : Tot (pf41 rows) fun c => (¬ RowsOk rows → c = ⟨[], [], []⟩) ∧ (RowsOk rows → c.Chk.length ≤ 900000 ∧ ∃ o, Ordr rows o ∧ Lst rows o.reverse c) := by
  unfold pf41
  refine .by' (c65 rows hB) fun x1 h1 => Tot.cd (fun h => .so ⟨fun _ => rfl, fun hok => by rw [h1.2 hok] at h; cases h⟩) (fun h => ?_)
  have hok : RowsOk rows := h1.1 (by simpa using h)
  refine Tot.use (Φ := fun c => (¬ RowsOk rows → c = ⟨[], [], []⟩) ∧ (RowsOk rows → c.Chk.length ≤ 900000 ∧ ∃ o, Ordr rows o ∧ Lst rows o.reverse c)) (Ψ := fun c => c.Chk.length ≤ 900000 ∧ ∃ o, Ordr rows o ∧ Lst rows o.reverse c) ?_ fun c hc => ⟨fun hn => absurd hok hn, fun _ => hc⟩
  have hn := hok.n
  refine .by' (Ξ := fun l => l = List.replicate rows.length 0) (Tot.mk (by simp [lim]; omega) (by simp)) fun x3 h3 => ?_
  subst h3
  refine .by' (Ξ := fun l => ∃ o : List Nat, l = o.map (fun (j : Nat) => (j : Int)) ∧ o.Nodup ∧ o.length ≤ 400 ∧ ∀ j, j ∈ o ↔ ∃ r, rows[j]? = some r ∧ r ≠ []) ?_ fun x5 h5 => ?_
  · refine Tot.count (fun s => s.2) rows.length (fun s => ∃ k : Nat, k ≤ rows.length ∧ s.2 = (k : Int) ∧ ∃ o : List Nat, s.1 = o.map (fun (j : Nat) => (j : Int)) ∧ o.Nodup ∧ o.length ≤ k ∧ ∀ j, j ∈ o ↔ j < k ∧ ∃ r, rows[j]? = some r ∧ r ≠ []) ⟨0, Nat.zero_le _, rfl, [], rfl, List.nodup_nil, Nat.le_refl 0, fun j => by simp⟩ (by show (rows.length : Int) - 0 < _; omega) fun s hs => ?_
    obtain ⟨l, k'⟩ := s
    obtain ⟨k, hk, rfl, o, rfl, hnd, hol, hm⟩ := hs
    simp only
    have hw : w64 ((k : Int) + 1) = ((k + 1 : Nat) : Int) := by rw [w64_eq]; omega
    rw [hw]
    refine Tot.cp (fun hlt => ?_) (fun hge => .so ⟨o, rfl, hnd, by omega, fun j => ?_⟩)
    · have hlt : k < rows.length := by omega
      rw [idx_nat hlt]
      have hrk : rows[k]? = some rows[k] := List.getElem?_eq_getElem hlt
      have hko : k ∉ o := fun h => by have := ((hm k).1 h).1; omega
      refine .by' (Ξ := fun l => ∃ o' : List Nat, l = o'.map (fun (j : Nat) => (j : Int)) ∧ o'.Nodup ∧ o'.length ≤ k + 1 ∧ ∀ j, j ∈ o' ↔ j < k + 1 ∧ ∃ r, rows[j]? = some r ∧ r ≠ []) ?_ fun l hl => .so ⟨⟨k + 1, by omega, rfl, hl⟩, ?_, ?_⟩
      · refine Tot.sm (.by' (Ξ := fun l => ∃ o' : List Nat, l = o'.map (fun (j : Nat) => (j : Int)) ∧ o'.Nodup ∧ o'.length ≤ k + 1 ∧ ∀ j, j ∈ o' ↔ j < k + 1 ∧ ∃ r, rows[j]? = some r ∧ r ≠ []) ?_ fun l hl => .so hl)
        refine Tot.cp (fun hp => ?_) (fun hp => .so ⟨o, rfl, hnd, by omega, fun j => ?_⟩)
        · refine .by' (Ξ := fun _ => True) (Tot.ap (by simp [lim]; omega) trivial) fun _ _ => .so ⟨o ++ [k], by simp, ?_, by simp; omega, fun j => ?_⟩
          · rw [List.nodup_append]
            exact ⟨hnd, by simp, fun a ha b hb e => hko (by rw [← List.mem_singleton.1 hb, ← e]; exact ha)⟩
          · rw [List.mem_append, hm j, List.mem_singleton]
            constructor
            · rintro (⟨h1, h2⟩ | rfl)
              · exact ⟨by omega, h2⟩
              · exact ⟨by omega, _, hrk, fun e => by rw [e] at hp; simp at hp⟩
            · rintro ⟨h1, h2⟩
              by_cases e : j = k
              · exact .inr e
              · exact .inl ⟨by omega, h2⟩
        · rw [hm j]
          constructor
          · rintro ⟨h1, h2⟩
            exact ⟨by omega, h2⟩
          · rintro ⟨h1, r, h2, h3⟩
            refine ⟨?_, r, h2, h3⟩
            have : j ≠ k := by
              rintro rfl
              rw [hrk] at h2; cases h2
              have : (rows[j]).length ≠ 0 := fun e => h3 (List.eq_nil_of_length_eq_zero e)
              omega
            omega
      · show (k : Int) < ((k + 1 : Nat) : Int); omega
      · show ((k + 1 : Nat) : Int) ≤ _; omega
    · have : k = rows.length := by omega
      subst this
      rw [hm j]
      constructor
      · exact fun h => h.2
      · rintro ⟨r, hr, h⟩
        exact ⟨(List.getElem?_eq_some_iff.1 hr).1, r, hr, h⟩
  obtain ⟨o1, rfl, hnd1, hol1, hm1⟩ := h5
  have hin : ∀ a ∈ o1.map (fun (j : Nat) => (j : Int)), 0 ≤ a ∧ a < rows.length := by
    intro a ha
    obtain ⟨j, hj, rfl⟩ := List.mem_map.1 ha
    obtain ⟨r, hr, _⟩ := (hm1 j).1 hj
    have := (List.getElem?_eq_some_iff.1 hr).1
    omega
  rw [sortK rows _ hin (by simp; omega)]
  refine Tot.sm ?_
  -- the order, as places
  obtain ⟨o, ho, hOr⟩ : ∃ o : List Nat, isort (ltK rows) (o1.map fun (j : Nat) => (j : Int)) = o.map (fun (j : Nat) => (j : Int)) ∧ Ordr rows o := by
    refine ⟨isort (fun a b : Nat => ltK rows (a : Int) (b : Int)) o1, ?_, ?_⟩
    · exact (isort_map (lt := fun a b : Nat => ltK rows (a : Int) (b : Int)) (lt' := ltK rows) (f := fun (j : Nat) => (j : Int)) (fun a b => rfl) o1).symm
    · have hS := ltK_swo rows
      have hp := isort_perm (fun a b : Nat => ltK rows (a : Int) (b : Int)) o1
      refine ⟨fun i => (hp.mem_iff).trans (hm1 i), hp.nodup_iff.2 hnd1, ?_⟩
      have hs := isort_sorted (lt := fun a b : Nat => ltK rows (a : Int) (b : Int)) ⟨fun x => hS.irrefl _, fun x y z => hS.trans _ _ _, fun x y z => hS.ntrans _ _ _⟩ o1
      exact hs.imp fun h => by simpa using h
  rw [ho]
  have hol := hOr.len
  refine .by' (Ξ := fun c => c.Chk.length ≤ 900000 ∧ ∃ o, Ordr rows o ∧ Lst rows o.reverse c) ?_ fun c hc => .so hc
  refine Tot.count (fun s => s.2) o.length (fun s => ∃ k : Nat, k ≤ o.length ∧ s.2 = (k : Int) ∧ s.1.Chk.length ≤ 1000 * k ∧ Lst rows (o.take k).reverse s.1) ⟨0, Nat.zero_le _, rfl, Nat.le_refl 0, .nil⟩ (by show (o.length : Int) - 0 < _; omega) fun s hs => ?_
  obtain ⟨c, k'⟩ := s
  obtain ⟨k, hk, rfl, hcl, hL⟩ := hs
  simp only at hcl hL ⊢
  have hw : w64 ((k : Int) + 1) = ((k + 1 : Nat) : Int) := by rw [w64_eq]; omega
  rw [hw]
  refine Tot.cp (fun hlt => ?_) (fun hge => .so ⟨by show c.Chk.length ≤ 900000; omega, o, hOr, ?_⟩)
  · rw [List.length_map] at hlt
    have hlt : k < o.length := by omega
    have hik : idx (o.map fun (j : Nat) => (j : Int)) (k : Int) = some ((o[k] : Nat) : Int) := by
      rw [idx_nat (by simpa using hlt)]; simp
    rw [hik]
    generalize hi : o[k] = i
    have him : i ∈ o := by rw [← hi]; exact List.getElem_mem hlt
    obtain ⟨r, hr, hrne⟩ := (hOr.mem i).1 him
    have hilt := hOr.lt him
    have hrm : r ∈ rows := List.mem_of_getElem? hr
    have hro := hok.rows r hrm
    have hrl := hB.r r hrm
    have hnot : i ∉ (o.take k).reverse := by
      rw [List.mem_reverse]
      intro h
      obtain ⟨j, hj, e⟩ := List.mem_iff_getElem.1 h
      rw [List.length_take] at hj
      rw [List.getElem_take] at e
      have := (List.getElem_inj (i := j) (j := k) (h₀ := by omega) (h₁ := hlt) hOr.nd).1 (by rw [e, hi])
      omega
    have hlen := hL.len
    refine Tot.sm (.by' (seek rows hB i r hr hro c (by omega) (hL.rest i hilt hnot) pf68 fun b hb => c68 c.Chk r b hro.at' (by omega) (by omega) (by omega)) fun B hBs => ?_)
    obtain ⟨b, rfl, hfit, hleast, hbc⟩ := hBs
    have hidx : idx rows (i : Int) = some r := by simp [idx, hr]
    rw [hidx]
    refine Tot.sm (.by' (putl r hro hrl i b (by omega) c hlen.1 (by omega) hbc _ (fun v ch k hk => ?_) (fun v ch k hk => ?_)) fun x hx => ?_)
    · have hbi : idx (c.Base.set i (b : Int)) (i : Int) = some (b : Int) := by
        have : i < c.Base.length := by omega
        simp [idx, this]
      have hd : decide ((k : Int) < (r.length : Int)) = true := decide_eq_true (by omega)
      simp only [hd, cond_true, idx_nat hk, hbi, Option.bind_some]
    · have hd : decide ((k : Int) < (r.length : Int)) = false := decide_eq_false hk
      simp only [hd, cond_false]
    · obtain ⟨hP, hl⟩ := hx
      refine .so ⟨⟨k + 1, by omega, rfl, ?_, ?_⟩, ?_, ?_⟩
      · show x.2.length ≤ 1000 * (k + 1); omega
      · rw [List.take_add_one, List.getElem?_eq_getElem hlt, hi]
        show Lst rows ((o.take k) ++ [i]).reverse _
        rw [List.reverse_append]
        exact .cons hr hnot hL ⟨hfit, hleast, rfl, hP⟩
      · show (k : Int) < ((k + 1 : Nat) : Int); omega
      · show ((k + 1 : Nat) : Int) ≤ _; omega
  · rw [List.length_map] at hge
    have : k = o.length := by omega
    subst this
    rw [List.take_length] at hL
    exact hL
end Go.Proofs
namespace Go.Proofs
open Go Go.Own Go.Sort
set_option maxRecDepth 100000
set_option linter.unusedVariables false
def Elig (rows : List Rw) (o : List Nat) (j : Nat) : Prop := j ∉ o ∧ ∃ r, rows[j]? = some r ∧ r ≠ []
theorem lenI_nat {rows : List Rw} {j : Nat} {r : Rw} (h : rows[j]? = some r) : lenI rows (j : Int) = r.length := by
  simp [lenI, idx, h]
structure Pre (rows : List Rw) (o : List Nat) (laid : List Bool) (c : Comb) : Prop where
  lst : Lst rows o.reverse c
  nd : o.Nodup
  ne : ∀ i ∈ o, ∃ r, rows[i]? = some r ∧ r ≠ []
  ll : laid.length = rows.length
  ld : ∀ j, j < rows.length → (laid.getD j false = true ↔ j ∈ o)
  pw : o.Pairwise fun (a b : Nat) => ltK rows (b : Int) (a : Int) = false
  bf : ∀ i ∈ o, ∀ j, Elig rows o j → ltK rows (j : Int) (i : Int) = false
  cl : c.Chk.length ≤ 1000 * o.length
theorem nd_le : ∀ (l m : List Nat), l.Nodup → (∀ x ∈ l, x ∈ m) → l.length ≤ m.length
  | [], _, _, _ => Nat.zero_le _
  | x :: l, m, hd, hm => by
    have hx := hm x (by simp)
    have hd' := List.nodup_cons.1 hd
    have := nd_le l (m.erase x) hd'.2 fun y hy => (List.mem_erase_of_ne (fun e => hd'.1 (by rw [← e]; exact hy))).2 (hm y (by simp [hy]))
    have hl := List.length_erase_of_mem hx
    have hp := List.length_pos_of_mem hx
    simp only [List.length_cons]
    omega
theorem Pre.ol {rows : List Rw} {o : List Nat} {laid : List Bool} {c : Comb} (h : Pre rows o laid c) : o.length ≤ rows.length := by
  have := nd_le o (List.range rows.length) h.nd fun x hx => by
    obtain ⟨r, hr, _⟩ := h.ne x hx
    simpa using (List.getElem?_eq_some_iff.1 hr).1
  simpa using this
theorem c42 (rows : List Rw) (hB : RowsB rows) : Tot (pf42 rows) fun c => (¬ RowsOk rows → c = ⟨[], [], []⟩) ∧ (RowsOk rows → ∃ o, Ordr rows o ∧ Lst rows o.reverse c) := by
  unfold pf42
  refine .by' (c69 rows hB) fun x1 h1 => Tot.cd (fun h => .so ⟨fun _ => rfl, fun hok => by rw [h1.2 hok] at h; cases h⟩) (fun h => ?_)
  have hok : RowsOk rows := h1.1 (by simpa using h)
  refine Tot.use (Ψ := fun c => ∃ o, Ordr rows o ∧ Lst rows o.reverse c) ?_ fun c hc => ⟨fun hn => absurd hok hn, fun _ => hc⟩
  have hn := hok.n
  refine .by' (Ξ := fun l => l = List.replicate rows.length 0) (Tot.mk (by simp [lim]; omega) (by simp)) fun x3 h3 => ?_
  subst h3
  refine .by' (Ξ := fun l => l = List.replicate rows.length false) (Tot.mk (by simp [lim]; omega) (by simp)) fun x4 h4 => ?_
  subst h4
  refine Tot.by' (Ξ := LR (fun _ => False) (fun c => ∃ o, Ordr rows o ∧ Lst rows o.reverse c)) ?_ fun x hx => by
    rcases x with x | x
    · exact hx.elim
    · exact .so hx
  refine Tot.loop (fun s => ∃ o, Pre rows o s.2 s.1) (fun s => (s.2.filter fun b => !b).length) ⟨[], .nil, List.nodup_nil, fun _ h => absurd h (by simp), by simp, fun j hj => by simp [List.getD_eq_getElem?_getD, hj], .nil, fun _ h => absurd h (by simp), Nat.le_refl 0⟩ (by
    show ((List.replicate rows.length false).filter fun b => !b).length < 1000000000000000000
    refine Nat.lt_of_le_of_lt (List.length_filter_le _ _) ?_
    rw [List.length_replicate]; omega) fun s hs => ?_
  obtain ⟨c, laid⟩ := s
  obtain ⟨o, hP⟩ := hs
  simp only at hP ⊢
  have hol := hP.ol
  have hll := hP.ll
  -- which is next
  refine .by' (Ξ := fun x : Int => (x = -1 ∧ ∀ j, ¬ Elig rows o j) ∨ ∃ i : Nat, x = (i : Int) ∧ Elig rows o i ∧ ∀ j, Elig rows o j → ltK rows (j : Int) (i : Int) = false) ?_ fun x10 h10 => ?_
  · refine Tot.count (fun s => s.2) rows.length (fun s => ∃ k : Nat, k ≤ rows.length ∧ s.2 = (k : Int) ∧ ((s.1 = -1 ∧ ∀ j, j < k → ¬ Elig rows o j) ∨ ∃ i : Nat, s.1 = (i : Int) ∧ i < k ∧ Elig rows o i ∧ ∀ j, j < k → Elig rows o j → ltK rows (j : Int) (i : Int) = false)) ⟨0, Nat.zero_le _, rfl, .inl ⟨rfl, fun j hj => absurd hj (Nat.not_lt_zero _)⟩⟩ (by show (rows.length : Int) - 0 < _; omega) fun s hs => ?_
    obtain ⟨x, k'⟩ := s
    obtain ⟨k, hk, rfl, hS⟩ := hs
    simp only at hS ⊢
    have hw : w64 ((k : Int) + 1) = ((k + 1 : Nat) : Int) := by rw [w64_eq]; omega
    rw [hw]
    refine Tot.cp (fun hlt => ?_) (fun hge => .so ?_)
    · have hlt : k < rows.length := by omega
      have hrk : rows[k]? = some rows[k] := List.getElem?_eq_getElem hlt
      have hld : idx laid (k : Int) = some (laid.getD k false) := by
        have : k < laid.length := by omega
        rw [idx_nat this, List.getD_eq_getElem?_getD, List.getElem?_eq_getElem this]; rfl
      refine .by' (Ξ := fun y : Int => (y = -1 ∧ ∀ j, j < k + 1 → ¬ Elig rows o j) ∨ ∃ i : Nat, y = (i : Int) ∧ i < k + 1 ∧ Elig rows o i ∧ ∀ j, j < k + 1 → Elig rows o j → ltK rows (j : Int) (i : Int) = false) ?_ fun y hy => .so ⟨⟨k + 1, by omega, rfl, hy⟩, ?_, ?_⟩
      · have skip : ¬ Elig rows o k → (x = -1 ∧ ∀ j, j < k + 1 → ¬ Elig rows o j) ∨ ∃ i : Nat, x = (i : Int) ∧ i < k + 1 ∧ Elig rows o i ∧ ∀ j, j < k + 1 → Elig rows o j → ltK rows (j : Int) (i : Int) = false := by
          intro hne
          rcases hS with ⟨e, h⟩ | ⟨i, e, hi, he, h⟩
          · refine .inl ⟨e, fun j hj => ?_⟩
            by_cases hjk : j = k
            · rw [hjk]; exact hne
            · exact h j (by omega)
          · refine .inr ⟨i, e, by omega, he, fun j hj hje => ?_⟩
            by_cases hjk : j = k
            · rw [hjk] at hje; exact absurd hje hne
            · exact h j (by omega) hje
        refine .by' (Ξ := fun c => (c = true → Elig rows o k ∧ (x = -1 ∨ ∃ i : Nat, x = (i : Int) ∧ lenI rows (i : Int) < lenI rows (k : Int))) ∧ (c = false → ¬ Elig rows o k ∨ ∃ i : Nat, x = (i : Int) ∧ lenI rows (k : Int) ≤ lenI rows (i : Int))) ?_ fun c21 hc => .by' (Ξ := fun y : Int => (y = -1 ∧ ∀ j, j < k + 1 → ¬ Elig rows o j) ∨ ∃ i : Nat, y = (i : Int) ∧ i < k + 1 ∧ Elig rows o i ∧ ∀ j, j < k + 1 → Elig rows o j → ltK rows (j : Int) (i : Int) = false) (Tot.cd (fun h => .so ?_) (fun h => .so ?_)) fun y hy => .so hy
        · rw [hld]
          refine Tot.sm (Tot.cd (fun hl => ?_) (fun hl => .so ⟨fun h => (by cases h), fun _ => .inl fun he => he.1 ((hP.ld k hlt).1 (by simpa using hl))⟩))
          have hko : k ∉ o := fun h => by rw [(hP.ld k hlt).2 h] at hl; cases hl
          rw [idx_nat hlt]
          refine Tot.sm (Tot.cp (fun hp => ?_) (fun hp => .so ⟨fun h => (by cases h), fun _ => .inl fun ⟨_, r, hr, hne⟩ => ?_⟩))
          · have hel : Elig rows o k := ⟨hko, _, hrk, fun e => by rw [e] at hp; simp at hp⟩
            refine Tot.cp (fun hx => .so ⟨fun _ => ⟨hel, .inl ?_⟩, fun h => (by cases h)⟩) (fun hx => ?_)
            · rcases hS with ⟨e, _⟩ | ⟨i, e, _⟩
              · exact e
              · omega
            · rcases hS with ⟨e, _⟩ | ⟨i, e, hi, ⟨_, r, hr, _⟩, _⟩
              · omega
              · subst e
                have hil : i < rows.length := by omega
                rw [idx_nat hil]
                refine Tot.sm (Tot.sm (.so ⟨fun h => ⟨hel, .inr ⟨i, rfl, ?_⟩⟩, fun h => .inr ⟨i, rfl, ?_⟩⟩))
                · rw [lenI_nat hrk, lenI_nat (List.getElem?_eq_getElem hil)]
                  have := of_decide_eq_true h
                  omega
                · rw [lenI_nat hrk, lenI_nat (List.getElem?_eq_getElem hil)]
                  have := of_decide_eq_false h
                  omega
          · rw [hrk] at hr; cases hr
            have : (rows[k]).length ≠ 0 := fun e => hne (List.eq_nil_of_length_eq_zero e)
            omega
        · obtain ⟨hel, hbest⟩ := hc.1 h
          refine .inr ⟨k, rfl, by omega, hel, fun j hj hje => ?_⟩
          by_cases hjk : j = k
          · rw [hjk]; exact (ltK_swo rows).irrefl _
          · rcases hS with ⟨e, h'⟩ | ⟨i, e, hi, he, h'⟩
            · exact absurd hje (h' j (by omega))
            · rcases hbest with e' | ⟨i', e', hl⟩
              · omega
              · have : i = i' := by omega
                subst this
                have := h' j (by omega) hje
                rw [ltK_not] at this ⊢
                omega
        · rcases hc.2 h with hne | ⟨i', e', hl⟩
          · exact skip hne
          · rcases hS with ⟨e, h'⟩ | ⟨i, e, hi, he, h'⟩
            · omega
            · have : i = i' := by omega
              subst this
              refine .inr ⟨i, e, by omega, he, fun j hj hje => ?_⟩
              by_cases hjk : j = k
              · subst hjk
                rw [ltK_not]; omega
              · exact h' j (by omega) hje
      · show (k : Int) < ((k + 1 : Nat) : Int); omega
      · show ((k + 1 : Nat) : Int) ≤ _; omega
    · have hkl : k = rows.length := by omega
      have hel : ∀ j, Elig rows o j → j < k := fun j ⟨_, r, hr, _⟩ => by
        have := (List.getElem?_eq_some_iff.1 hr).1; omega
      rcases hS with ⟨e, h⟩ | ⟨i, e, hi, he, h⟩
      · exact .inl ⟨e, fun j hj => h j (hel j hj) hj⟩
      · exact .inr ⟨i, e, he, fun j hj => h j (hel j hj) hj⟩
  rcases h10 with ⟨rfl, hnone⟩ | ⟨i, rfl, hel, hbest⟩
  · refine Tot.cd (fun _ => .so ⟨o, ⟨fun i => ⟨hP.ne i, fun ⟨r, hr, hne⟩ => Classical.byContradiction fun hi => hnone i ⟨hi, r, hr, hne⟩⟩, hP.nd, hP.pw⟩, hP.lst⟩) (fun h => absurd h (by decide))
  · refine Tot.cp (fun h => by omega) (fun _ => ?_)
    obtain ⟨hio, r, hr, hrne⟩ := hel
    have hil : i < rows.length := (List.getElem?_eq_some_iff.1 hr).1
    have hill : i < laid.length := by omega
    rw [idx_nat hill]
    have hrm : r ∈ rows := List.mem_of_getElem? hr
    have hro := hok.rows r hrm
    have hrl := hB.r r hrm
    have hcl := hP.cl
    have hL := hP.lst
    have hnot : i ∉ o.reverse := by rw [List.mem_reverse]; exact hio
    have hlen := hL.len
    refine Tot.sm (.by' (seek rows hB i r hr hro c (by omega) (hL.rest i hil hnot) pf70 fun b hb => c70 c.Chk r b hro.at' (by omega) (by omega) (by omega)) fun B hBs => ?_)
    obtain ⟨b, rfl, hfit, hleast, hbc⟩ := hBs
    have hidx : idx rows (i : Int) = some r := by simp [idx, hr]
    rw [hidx]
    refine .by' (putl r hro hrl i b (by omega) c hlen.1 (by omega) hbc _ (fun v ch k hk => ?_) (fun v ch k hk => ?_)) fun x hx => ?_
    · have hbi : idx (c.Base.set i (b : Int)) (i : Int) = some (b : Int) := by
        have : i < c.Base.length := by omega
        simp [idx, this]
      have hd : decide ((k : Int) < (r.length : Int)) = true := decide_eq_true (by omega)
      simp only [Option.bind_some, hd, cond_true, idx_nat hk, hbi]
    · have hd : decide ((k : Int) < (r.length : Int)) = false := decide_eq_false hk
      simp only [Option.bind_some, hd, cond_false]
    · obtain ⟨hPut, hl⟩ := hx
      have hs2 : (laid.set i true).length = rows.length := by rw [List.length_set]; exact hll
      refine .so ⟨⟨o ++ [i], ?_, ?_, fun a ha => ?_, hs2, fun j hj => ?_, ?_, fun a ha j hj => ?_, ?_⟩, ?_⟩
      · rw [List.reverse_append]
        exact .cons hr hnot hL ⟨hfit, hleast, rfl, hPut⟩
      · rw [List.nodup_append]
        exact ⟨hP.nd, by simp, fun a ha b hb e => hio (by rw [← List.mem_singleton.1 hb, ← e]; exact ha)⟩
      · rcases List.mem_append.1 ha with ha | ha
        · exact hP.ne a ha
        · rw [List.mem_singleton.1 ha]; exact ⟨r, hr, hrne⟩
      · show ((laid.set i true).getD j false = true ↔ _)
        rw [List.getD_eq_getElem?_getD, List.getElem?_set, List.mem_append, List.mem_singleton]
        by_cases e : i = j
        · subst e
          simp [hill]
        · rw [if_neg e, ← List.getD_eq_getElem?_getD, hP.ld j hj]
          constructor
          · exact .inl
          · rintro (h | h)
            · exact h
            · exact absurd h.symm e
      · rw [List.pairwise_append]
        exact ⟨hP.pw, List.pairwise_singleton _ _, fun a ha b hb => by rw [List.mem_singleton.1 hb]; exact hP.bf a ha i ⟨hio, r, hr, hrne⟩⟩
      · have hj' : Elig rows o j := ⟨fun h => hj.1 (by simp [h]), hj.2⟩
        rcases List.mem_append.1 ha with ha | ha
        · exact hP.bf a ha j hj'
        · rw [List.mem_singleton.1 ha]; exact hbest j hj'
      · show x.2.length ≤ 1000 * (o ++ [i]).length
        simp; omega
      · show ((laid.set i true).filter fun b => !b).length < (laid.filter fun b => !b).length
        have hfi : laid.getD i false = false := by
          cases h : laid.getD i false with
          | false => rfl
          | true => exact absurd ((hP.ld i hil).1 h) hio
        have key : ∀ (l : List Bool) (i : Nat), i < l.length → l.getD i false = false → ((l.set i true).filter fun b => !b).length < (l.filter fun b => !b).length := by
          intro l
          induction l with
          | nil => intro i hi; simp at hi
          | cons y l ih =>
            intro i hi h0
            cases i with
            | zero =>
              have : y = false := by simpa using h0
              subst this
              simp
            | succ i =>
              have := ih i (by simpa using hi) (by simpa using h0)
              simp only [List.set_cons_succ]
              cases y <;> simp <;> omega
        exact key laid i hill hfi
end Go.Proofs
namespace Go.Proofs
open Go Go.Own Go.Sort
set_option maxRecDepth 100000
set_option linter.unusedVariables false
theorem c30 (a n : Int) (h : 0 < n) (hn : n ≤ 9223372036854775807) : Tot (pf30 a n) fun r => 0 ≤ r ∧ r < n := by
  unfold pf30
  have h1 : -n < a.tmod n := by
    by_cases ha : 0 ≤ a
    · have := Int.tmod_nonneg n ha; omega
    · have h2 : (-a).tmod n < n := Int.tmod_lt_of_pos _ h
      rw [Int.neg_tmod] at h2
      omega
  have h2 : a.tmod n < n := Int.tmod_lt_of_pos a h
  refine .by' (Ξ := fun x => x = a.tmod n) (Tot.rem (by omega) rfl) fun x hx => ?_
  subst hx
  refine Tot.by' (Ξ := fun r => 0 ≤ r ∧ r < n) (Tot.cp (fun h3 => .so ?_) (fun h3 => .so (by omega))) fun r hr => .so hr
  rw [w64_eq]; omega
structure Good (r : Rw) : Prop where
  l : r.length ≤ 12
  ok : RowOk r
theorem c38 (a0 : List (List Int)) (a1 : Int) : Tot (pf38 a0 a1) fun rows => rows.length ≤ 14 ∧ ∀ r ∈ rows, Good r := by
  unfold pf38
  refine .by' (c30 a1 60 (by omega) (by omega)) fun m hm => .by' (Ξ := fun rows => rows.length ≤ 14 ∧ ∀ r ∈ rows, Good r) ?_ fun r hr => .so hr
  refine Tot.count (fun s => s.2) 14 (fun s => 0 ≤ s.2 ∧ s.2 ≤ 14 ∧ (s.1.length : Int) = s.2 ∧ ∀ r ∈ s.1, Good r) ⟨by decide, by decide, rfl, fun _ h => absurd h (by simp)⟩ (by decide) fun s hs => ?_
  obtain ⟨rows, i⟩ := s
  obtain ⟨h0, h1, hl, hg⟩ := hs
  simp only at h0 h1 hl hg ⊢
  refine .by' (Ξ := fun c => c = true ↔ (i < a0.length ∧ i < 14)) (Tot.cp (fun h => .so ?_) (fun h => .so ?_)) fun c hc => Tot.cd (fun h => ?_) (fun h => .so ⟨by omega, hg⟩)
  · simp [h]
  · simp [h]
  obtain ⟨hi1, hi2⟩ := hc.1 h
  obtain ⟨x, hx, _⟩ := idx_some' h0 hi1
  refine .by' (Ξ := fun r => Good r) ?_ fun r hr => .by' (Ξ := fun _ => True) (Tot.ap (by simp [lim]; omega) trivial) fun _ _ => .so ⟨⟨?_, ?_, ?_, fun q hq => ?_⟩, ?_, ?_⟩
  · refine Tot.count (fun s => s.2.2) 12 (fun s => 0 ≤ s.2.2 ∧ s.2.2 ≤ 12 ∧ (s.1.length : Int) ≤ s.2.2 ∧ RowOk s.1 ∧ s.2.1 = s.1.map (·.At)) ⟨by decide, by decide, by decide, RowOk.nil, rfl⟩ (by decide) fun s hs => ?_
    obtain ⟨r, ats, j⟩ := s
    obtain ⟨g0, g1, gl, gok, ge⟩ := hs
    simp only at g0 g1 gl gok ge ⊢
    subst ge
    rw [hx]
    refine .by' (Ξ := fun c => c = true ↔ (j < x.length ∧ j < 12)) (Tot.sm (Tot.cp (fun h => .so ?_) (fun h => .so ?_))) fun c hc => Tot.cd (fun h => ?_) (fun h => .so ⟨by omega, gok⟩)
    · simp [h]
    · simp [h]
    obtain ⟨hj1, hj2⟩ := hc.1 h
    obtain ⟨y, hy, _⟩ := idx_some' g0 hj1
    have hw : w64 (1 + m) = 1 + m := by rw [w64_eq]; omega
    have hwj : w64 (j + 1) = j + 1 := by rw [w64_eq]; omega
    simp only [Option.bind_some, hy, hw, hwj]
    refine .by' (Ξ := fun z : List Pair × List Int => (z.1.length : Int) ≤ j + 1 ∧ RowOk z.1 ∧ z.2 = z.1.map (·.At)) ?_ fun z hz => .so ⟨⟨by show 0 ≤ j + 1; omega, by show j + 1 ≤ 12; omega, hz⟩, by show j < j + 1; omega, by show j + 1 ≤ 12; omega⟩
    refine .by' (c30 y (1 + m) (by omega) (by omega)) fun p hp => ?_
    refine .by' (c35 _ p (by rw [List.length_map]; omega)) fun c hc => ?_
    refine .by' (Ξ := fun z : List Pair × List Int => (z.1.length : Int) ≤ j + 1 ∧ RowOk z.1 ∧ z.2 = z.1.map (·.At)) (Tot.cd (fun h => ?_) (fun h => .so ⟨by show (r.length : Int) ≤ _; omega, gok, rfl⟩)) fun z hz => .so hz
    have hn : p ∉ r.map (·.At) := fun hh => by rw [hc.2 hh] at h; cases h
    refine .by' (Ξ := fun _ => True) (Tot.ap (by simp [lim]; omega) trivial) fun _ _ => .by' (Ξ := fun _ => True) (Tot.ap (by simp [lim]; omega) trivial) fun _ _ => .so ⟨?_, gok.snoc (p := ⟨p, y⟩) ⟨hp.1, by show p ≤ 999; omega⟩ hn, by simp⟩
    show (((r ++ [(⟨p, y⟩ : Pair)]).length : Nat) : Int) ≤ j + 1
    simp; omega
  · show 0 ≤ w64 (i + 1); rw [w64_eq]; omega
  · show w64 (i + 1) ≤ 14; rw [w64_eq]; omega
  · show (((rows ++ [r]).length : Nat) : Int) = w64 (i + 1)
    rw [w64_eq]; simp; omega
  · rcases List.mem_append.1 hq with hq | hq
    · exact hg q hq
    · rw [List.mem_singleton.1 hq]; exact hr
  · show i < w64 (i + 1); rw [w64_eq]; omega
  · show w64 (i + 1) ≤ 14; rw [w64_eq]; omega
theorem c39 (a0 : List Rw) : Tot (pf39 a0) fun rows => RowsB rows := by
  unfold pf39
  refine .by' (Ξ := fun rows => RowsB rows) ?_ fun r hr => .so hr
  refine Tot.count (fun s => s.2) 9 (fun s => 0 ≤ s.2 ∧ s.2 ≤ 9 ∧ (s.1.length : Int) = s.2 ∧ ∀ r ∈ s.1, r.length ≤ 6) ⟨by decide, by decide, rfl, fun _ h => absurd h (by simp)⟩ (by decide) fun s hs => ?_
  obtain ⟨rows, i⟩ := s
  obtain ⟨h0, h1, hl, hg⟩ := hs
  simp only at h0 h1 hl hg ⊢
  refine .by' (Ξ := fun c => c = true ↔ (i < a0.length ∧ i < 9)) (Tot.cp (fun h => .so ?_) (fun h => .so ?_)) fun c hc => Tot.cd (fun h => ?_) (fun h => .so ⟨by omega, fun r hr => by have := hg r hr; omega⟩)
  · simp [h]
  · simp [h]
  obtain ⟨hi1, hi2⟩ := hc.1 h
  obtain ⟨x, hx, _⟩ := idx_some' h0 hi1
  rw [hx]
  refine Tot.sm (.by' (Ξ := fun r : Rw => r.length ≤ 6) (Tot.cp (fun h => .by' (Ξ := fun r : Rw => r.length ≤ 6) (Tot.sub (by omega) ?_) fun r hr => .so hr) (fun h => .so (by omega))) fun r hr => .by' (Ξ := fun _ => True) (Tot.ap (by simp [lim]; omega) trivial) fun _ _ => .so ⟨⟨?_, ?_, ?_, fun q hq => ?_⟩, ?_, ?_⟩)
  · rw [List.length_take]; omega
  · show 0 ≤ w64 (i + 1); rw [w64_eq]; omega
  · show w64 (i + 1) ≤ 9; rw [w64_eq]; omega
  · show (((rows ++ [r]).length : Nat) : Int) = w64 (i + 1)
    rw [w64_eq]; simp; omega
  · rcases List.mem_append.1 hq with hq | hq
    · exact hg q hq
    · rw [List.mem_singleton.1 hq]; exact hr
  · show i < w64 (i + 1); rw [w64_eq]; omega
  · show w64 (i + 1) ≤ 9; rw [w64_eq]; omega
theorem rowsB {rows : List Rw} (h : rows.length ≤ 14 ∧ ∀ r ∈ rows, Good r) : RowsB rows := ⟨by omega, fun r hr => by have := (h.2 r hr).l; omega⟩
theorem rowsOk {rows : List Rw} (h : rows.length ≤ 14 ∧ ∀ r ∈ rows, Good r) : RowsOk rows := ⟨by omega, fun r hr => (h.2 r hr).ok⟩
theorem c40' (c : Comb) (rows : List Rw) (hB : RowsB rows) (h : (¬ RowsOk rows → c = ⟨[], [], []⟩) ∧ (RowsOk rows → c.Chk.length ≤ 900000 ∧ ∃ o, Ordr rows o ∧ Lst rows o.reverse c)) : Tot (pf40 c c) fun c => c = true := by
  by_cases hok : RowsOk rows
  · obtain ⟨hl, o, _, hL⟩ := h.2 hok
    have := hL.len
    have hn := hB.n
    exact c40 c (by omega) (by omega) (by omega)
  · rw [h.1 hok]
    exact c40 _ (by decide) (by decide) (by decide)
theorem same41 (rows : List Rw) (hB : RowsB rows) : Tot (pf41 rows) fun c => pf42 rows = some c ∧ Tot (pf40 c c) fun c => c = true := by
  refine (c41 rows hB).use fun c hc => ⟨?_, c40' c rows hB hc⟩
  obtain ⟨c', hc', h⟩ := c42 rows hB
  rw [hc']
  by_cases hok : RowsOk rows
  · obtain ⟨_, o, ho, hL⟩ := hc.2 hok
    obtain ⟨o', ho', hL'⟩ := h.2 hok
    have := ho.uniq ho'
    subst this
    rw [hL.det rfl (fun i r r' e1 e2 p => by rw [e1] at e2; cases e2; rfl) hL']
  · rw [hc.1 hok, h.1 hok]
theorem t8 (a0 : List (List Int)) (a1 : Int) (a2 : List Rw) : pf8 a0 a1 a2 = some true := by
  suffices h : Tot (pf8 a0 a1 a2) fun r => r = true by
    obtain ⟨r, hr, e⟩ := h; rw [hr, e]
  unfold pf8
  rw [w37]
  refine Tot.sm (.by' (c38 a0 a1) fun x hx => .by' (c39 a2) fun y hy => .by' (Ξ := fun r => r = true) ?_ fun r hr => .so hr)
  refine .by' (same41 x (rowsB hx)) fun c hc => ?_
  rw [hc.1]
  refine Tot.sm (.by' hc.2 fun b hb => Tot.cd (fun _ => .by' (same41 y hy) fun d hd => ?_) (fun h => by rw [hb] at h; cases h))
  rw [hd.1]
  exact Tot.sm (.by' hd.2 fun b hb => .so hb)
end Go.Proofs
namespace Go.Proofs
open Go Go.Own Go.Sort
set_option maxRecDepth 100000
set_option linter.unusedVariables false
def nz (ch : List Int) : List Nat := (List.range ch.length).filter fun k => decide (ch.getD k 0 ≠ 0)
def rlen (rows : List Rw) (i : Nat) : Nat := (rows[i]?.map List.length).getD 0
structure Inv (rows : List Rw) (l : List Nat) (c : Comb) : Prop where
  own : ∀ i ∈ l, ∃ (r : Rw) (b : Nat), rows[i]? = some r ∧ c.Base[i]? = some (b : Int) ∧ ∀ p ∈ r, b + p.At.toNat < c.Chk.length ∧ c.Chk.getD (b + p.At.toNat) 0 = (i : Int) + 1 ∧ c.Val.getD (b + p.At.toNat) 0 = p.Val
  who : ∀ k, c.Chk.getD k 0 ≠ 0 → ∃ i ∈ l, ∃ (r : Rw) (b : Nat), rows[i]? = some r ∧ c.Base[i]? = some (b : Int) ∧ ∃ p ∈ r, k = b + p.At.toNat ∧ c.Chk.getD k 0 = (i : Int) + 1
  zero : ∀ k, c.Chk.getD k 0 = 0 → c.Val.getD k 0 = 0
  last : c.Chk.length = 0 ∨ c.Chk.getD (c.Chk.length - 1) 0 ≠ 0
  least : ∀ i ∈ l, ∀ b : Nat, c.Base[i]? = some (b : Int) → ∀ b', b' < b → ∃ (r : Rw) (p : Pair) (i' : Nat), rows[i]? = some r ∧ p ∈ r ∧ i' ∈ l ∧ ltK rows (i' : Int) (i : Int) = true ∧ c.Chk.getD (b' + p.At.toNat) 0 = (i' : Int) + 1
  cnt : (nz c.Chk).length = (l.map (rlen rows)).sum
theorem mem_nz {ch : List Int} {k : Nat} : k ∈ nz ch ↔ ch.getD k 0 ≠ 0 := by
  unfold nz
  rw [List.mem_filter, List.mem_range]
  constructor
  · intro h; simpa using h.2
  · intro h
    refine ⟨Classical.byContradiction fun hk => h ?_, by simpa using h⟩
    rw [List.getD_eq_getElem?_getD, List.getElem?_eq_none (by omega)]; rfl
theorem nd_nz (ch : List Int) : (nz ch).Nodup := List.nodup_range.sublist List.filter_sublist
theorem Lst.inv {rows : List Rw} (hok : RowsOk rows) {l : List Nat} {c : Comb} (h : Lst rows l c) (hpw : l.Pairwise fun (a b : Nat) => ltK rows (a : Int) (b : Int) = false) : Inv rows l c := by
  induction h with
  | nil => exact ⟨fun _ h => absurd h (by simp), fun k h => absurd rfl h, fun _ _ => rfl, .inl rfl, fun _ h => absurd h (by simp), rfl⟩
  | @cons i b l c c' r hr hi hL hs ih =>
    have hpw' := List.pairwise_cons.1 hpw
    have I := ih hpw'.2
    have hro := hok.rows r (List.mem_of_getElem? hr)
    have hP := hs.put
    have hlen := hL.len
    have hil : i < c.Base.length := by rw [hlen.2]; exact (List.getElem?_eq_some_iff.1 hr).1
    have hbi : c'.Base[i]? = some (b : Int) := by rw [hs.base]; simp [hil]
    have hbj : ∀ j, j ≠ i → c'.Base[j]? = c.Base[j]? := fun j hj => by rw [hs.base, List.getElem?_set_ne (Ne.symm hj)]
    have hne : ∀ j ∈ l, j ≠ i := fun j hj e => hi (e ▸ hj)
    have free : ∀ k, c.Chk.getD k 0 ≠ 0 → ∀ p ∈ r, b + p.At.toNat ≠ k := fun k hk p hp e => hk (e ▸ hs.fit p hp)
    have keep : ∀ k, c.Chk.getD k 0 ≠ 0 → c'.Chk.getD k 0 = c.Chk.getD k 0 := fun k hk => hP.chn k (free k hk)
    refine ⟨fun j hj => ?_, fun k hk => ?_, fun k hk => ?_, ?_, fun j hj b1 hb1 b' hlt => ?_, ?_⟩
    · rcases List.mem_cons.1 hj with rfl | hj
      · exact ⟨r, b, hr, hbi, fun p hp => ⟨hP.in' p hp, hP.chk p hp, hP.val p hp⟩⟩
      · obtain ⟨r', b', h1, h2, h3⟩ := I.own j hj
        refine ⟨r', b', h1, by rw [hbj j (hne j hj)]; exact h2, fun p hp => ?_⟩
        obtain ⟨g1, g2, g3⟩ := h3 p hp
        have hnz : c.Chk.getD (b' + p.At.toNat) 0 ≠ 0 := by rw [g2]; omega
        exact ⟨Nat.lt_of_lt_of_le g1 hP.lo, by rw [keep _ hnz]; exact g2, by rw [hP.van _ (free _ hnz)]; exact g3⟩
    · by_cases hp : ∃ p ∈ r, b + p.At.toNat = k
      · obtain ⟨p, hp, rfl⟩ := hp
        exact ⟨i, by simp, r, b, hr, hbi, p, hp, rfl, hP.chk p hp⟩
      · have e := hP.chn k fun p hp' e => hp ⟨p, hp', e⟩
        rw [e] at hk ⊢
        obtain ⟨j, hj, r', b', h1, h2, h3⟩ := I.who k hk
        exact ⟨j, by simp [hj], r', b', h1, by rw [hbj j (hne j hj)]; exact h2, h3⟩
    · by_cases hp : ∃ p ∈ r, b + p.At.toNat = k
      · obtain ⟨p, hp, rfl⟩ := hp
        rw [hP.chk p hp] at hk; omega
      · have hn : ∀ p ∈ r, b + p.At.toNat ≠ k := fun p hp' e => hp ⟨p, hp', e⟩
        rw [hP.chn k hn] at hk
        rw [hP.van k hn]
        exact I.zero k hk
    · rcases hP.hi with e | ⟨p, hp, e⟩
      · rcases I.last with h0 | h0
        · exact .inl (by omega)
        · exact .inr (by rw [e, keep _ h0]; exact h0)
      · refine .inr ?_
        rw [e]
        show c'.Chk.getD (b + p.At.toNat + 1 - 1) 0 ≠ 0
        rw [Nat.add_sub_cancel, hP.chk p hp]; omega
    · rcases List.mem_cons.1 hj with rfl | hj
      · rw [hbi] at hb1
        have hbb : b = b1 := by injection hb1 with e; omega
        subst hbb
        have hnf := hs.least b' hlt
        obtain ⟨p, hp, hz⟩ : ∃ p ∈ r, c.Chk.getD (b' + p.At.toNat) 0 ≠ 0 :=
          Classical.byContradiction fun hn => hnf fun p hp => Classical.byContradiction fun hz => hn ⟨p, hp, hz⟩
        obtain ⟨i', hi', _, _, _, _, _, _, _, e⟩ := I.who _ hz
        refine ⟨r, p, i', hr, hp, by simp [hi'], ?_, by rw [keep _ hz]; exact e⟩
        have h1 := hpw'.1 i' hi'
        cases h2 : ltK rows (i' : Int) (j : Int) with
        | true => rfl
        | false => exact absurd (ltK_tot h2 h1) (by have := hne i' hi'; omega)
      · rw [hbj j (hne j hj)] at hb1
        obtain ⟨r', p, i', h1, h2, h3, h4, h5⟩ := I.least j hj b1 hb1 b' hlt
        exact ⟨r', p, i', h1, h2, by simp [h3], h4, by rw [keep _ (by rw [h5]; omega)]; exact h5⟩
    · have hperm : (nz c'.Chk).Perm (r.map (fun p => b + p.At.toNat) ++ nz c.Chk) := by
        refine (List.perm_ext_iff_of_nodup (nd_nz _) ?_).2 fun k => ?_
        · rw [List.nodup_append]
          refine ⟨?_, nd_nz _, fun x hx y hy e => ?_⟩
          · unfold List.Nodup
            rw [List.pairwise_map]
            have := hro.nd
            unfold List.Nodup at this
            rw [List.pairwise_map] at this
            refine this.imp_of_mem fun {p q} hp hq hne => ?_
            have h1 := hro.at' p hp
            have h2 := hro.at' q hq
            omega
          · obtain ⟨p, hp, rfl⟩ := List.mem_map.1 hx
            have h1 := mem_nz.1 hy
            rw [← e] at h1
            exact h1 (hs.fit p hp)
        · rw [mem_nz, List.mem_append, mem_nz, List.mem_map]
          by_cases hp : ∃ p ∈ r, b + p.At.toNat = k
          · obtain ⟨p, hp, rfl⟩ := hp
            rw [hP.chk p hp]
            exact ⟨fun _ => .inl ⟨p, hp, rfl⟩, fun _ => by omega⟩
          · rw [hP.chn k fun p hp' e => hp ⟨p, hp', e⟩]
            exact ⟨.inr, fun h => h.resolve_left hp⟩
      rw [hperm.length_eq, List.length_append, List.length_map, I.cnt, List.map_cons, List.sum_cons]
      simp [rlen, hr]
def get (r : Rw) (n : Int) : Int × Bool := match r.find? fun p => decide (p.At = n) with
  | some p => (p.Val, true)
  | none => (0, false)
theorem get_none {r : Rw} {n : Int} (h : ∀ p ∈ r, p.At ≠ n) : get r n = (0, false) := by
  unfold get
  rw [List.find?_eq_none.2 fun p hp => by simpa using h p hp]
theorem get_some {r : Rw} (hr : RowOk r) {p : Pair} (hp : p ∈ r) : get r p.At = (p.Val, true) := by
  unfold get
  cases h : r.find? fun q => decide (q.At = p.At) with
  | none => exact absurd (List.find?_eq_none.1 h p hp) (by simp)
  | some q =>
    have h1 : q.At = p.At := by simpa using List.find?_some h
    have h2 := List.mem_of_find?_eq_some h
    obtain ⟨i, hi, e1⟩ := List.mem_iff_getElem.1 h2
    obtain ⟨j, hj, e2⟩ := List.mem_iff_getElem.1 hp
    have := (List.getElem_inj (h₀ := by simpa using hi) (h₁ := by simpa using hj) hr.nd).1 (by simp only [List.getElem_map]; rw [e1, e2]; exact h1)
    subst this
    rw [e1] at e2
    rw [e2]
theorem g43 (r : Rw) (n : Int) (hl : r.length ≤ 100000) : pf43 r n = some (get r n) := by
  suffices h : Tot (pf43 r n) fun x => x = get r n by
    obtain ⟨x, hx, e⟩ := h; rw [hx, e]
  unfold pf43
  refine Tot.by' (Ξ := LR (fun _ => get r n = (0, false)) (fun x => x = get r n)) ?_ fun x hx => ?_
  · refine Tot.count (fun s => s) r.length (fun s => ∃ k : Nat, k ≤ r.length ∧ s = (k : Int) ∧ ∀ p ∈ r.take k, p.At ≠ n) ⟨0, Nat.zero_le _, rfl, fun _ h => absurd h (by simp)⟩ (by show (r.length : Int) - 0 < _; omega) fun s hs => ?_
    obtain ⟨k, hk, rfl, hn⟩ := hs
    refine Tot.cp (fun h => ?_) (fun h => .so ?_)
    · have hlt : k < r.length := by omega
      rw [idx_nat hlt]
      refine Tot.sm (Tot.cp (fun e => .so ?_) (fun e => .so ⟨⟨k + 1, by omega, by rw [w64_eq]; omega, fun p hp => ?_⟩, by show (k : Int) < w64 _; rw [w64_eq]; omega, by show w64 _ ≤ _; rw [w64_eq]; omega⟩))
      · show ((r[k]).Val, true) = get r n
        unfold get
        have hf : r.find? (fun p => decide (p.At = n)) = some r[k] := by
          rw [List.find?_eq_some_iff_getElem]
          refine ⟨by simpa using e, k, hlt, rfl, fun j hj => ?_⟩
          have := hn (r[j]'(by omega)) (List.mem_iff_getElem.2 ⟨j, by rw [List.length_take]; omega, by rw [List.getElem_take]⟩)
          simpa using this
        rw [hf]
      · rw [take_snoc hlt] at hp
        rcases List.mem_append.1 hp with hp | hp
        · exact hn p hp
        · rw [List.mem_singleton.1 hp]; exact e
    · have : k = r.length := by omega
      subst this
      rw [List.take_length] at hn
      exact get_none hn
  · rcases x with x | x
    · exact .so (Eq.symm hx)
    · exact .so hx
def getR (rows : List Rw) (a n : Int) : Int × Bool := match idx rows a with
  | some r => get r n
  | none => (0, false)
theorem g44 {rows : List Rw} (hok : RowsOk rows) {o : List Nat} (hO : Ordr rows o) {c : Comb} (hL : Lst rows o.reverse c) (hI : Inv rows o.reverse c) (hc : c.Chk.length ≤ 900000) (a n : Int) : pf44 c a n = some (getR rows a n) := by
  have hlen := hL.len
  suffices h : Tot (pf44 c a n) fun x => x = getR rows a n by
    obtain ⟨x, hx, e⟩ := h; rw [hx, e]
  have none' : (∀ r, idx rows a = some r → ∀ p ∈ r, p.At ≠ n) → getR rows a n = (0, false) := by
    intro h
    unfold getR
    cases hi : idx rows a with
    | none => rfl
    | some r => exact get_none (h r hi)
  have out : (a < 0 ∨ (c.Base.length : Int) ≤ a) → idx rows a = none := by
    intro h
    unfold idx
    rcases h with h | h
    · rw [if_neg (by omega)]
    · split
      · exact List.getElem?_eq_none (by omega)
      · rfl
  -- where the pairs of a row stand
  have at_ : ∀ r, idx rows a = some r → ∀ p ∈ r, 0 ≤ a ∧ ∃ b : Nat, c.Base[a.toNat]? = some (b : Int) ∧ b + p.At.toNat < c.Chk.length ∧ c.Chk.getD (b + p.At.toNat) 0 = (a.toNat : Int) + 1 ∧ c.Val.getD (b + p.At.toNat) 0 = p.Val := by
    intro r hr p hp
    have h0 : 0 ≤ a := by
      by_cases h0 : 0 ≤ a
      · exact h0
      · rw [idx, if_neg h0] at hr; cases hr
    have hr' : rows[a.toNat]? = some r := by rw [idx, if_pos h0] at hr; exact hr
    obtain ⟨r', b, h1, h2, h3⟩ := hI.own a.toNat (List.mem_reverse.2 ((hO.mem _).2 ⟨r, hr', fun e => by rw [e] at hp; simp at hp⟩))
    rw [hr'] at h1; cases h1
    exact ⟨h0, b, h2, h3 p hp⟩
  have hp0 : ∀ r, idx rows a = some r → ∀ p ∈ r, 0 ≤ p.At ∧ p.At ≤ 999 := by
    intro r hr p hp
    have : r ∈ rows := by
      unfold idx at hr
      split at hr
      · exact List.mem_of_getElem? hr
      · cases hr
    exact (hok.rows r this).at' p hp
  unfold pf44
  refine .by' (Ξ := fun x : Bool => (x = true → (a < 0 ∨ (c.Base.length : Int) ≤ a) ∨ n < 0 ∨ (c.Chk.length : Int) ≤ n) ∧ (x = false → 0 ≤ a ∧ a < c.Base.length ∧ 0 ≤ n ∧ n < c.Chk.length)) ?_ fun x hx => Tot.cd (fun h => ?_) (fun h => ?_)
  · refine Tot.cp (fun h => .so ⟨fun _ => .inl (.inl h), fun h => (by cases h)⟩) (fun h1 => Tot.cp (fun h => .so ⟨fun _ => .inl (.inr h), fun h => (by cases h)⟩) (fun h2 => Tot.cp (fun h => .so ⟨fun _ => .inr (.inl h), fun h => (by cases h)⟩) (fun h3 => .so ⟨fun h => .inr (.inr (of_decide_eq_true h)), fun h => ?_⟩)))
    have := of_decide_eq_false h
    omega
  · refine .so (Eq.symm (none' fun r hr p hp e => ?_))
    obtain ⟨h0, b, hb, h1, _⟩ := at_ r hr p hp
    have h2 := hp0 r hr p hp
    rcases hx.1 h with h' | h' | h'
    · rw [out h'] at hr; cases hr
    · omega
    · omega
  · obtain ⟨h0, h1, h2, h3⟩ := hx.2 h
    have halt : a.toNat < rows.length := by omega
    -- the base
    obtain ⟨b, hb, hb2⟩ : ∃ b : Nat, c.Base[a.toNat]? = some (b : Int) ∧ b ≤ 900000 := by
      by_cases hm : a.toNat ∈ o
      · obtain ⟨r', b, g1, g2, g3⟩ := hI.own a.toNat (List.mem_reverse.2 hm)
        refine ⟨b, g2, ?_⟩
        obtain ⟨r, e1, e2⟩ := (hO.mem _).1 hm
        rw [e1] at g1; cases g1
        obtain ⟨p, hp⟩ := List.exists_mem_of_ne_nil _ e2
        have := (g3 p hp).1
        omega
      · exact ⟨0, hL.rest _ halt (by simpa using hm), by omega⟩
    have hbi : idx c.Base a = some (b : Int) := by rw [idx, if_pos h0]; exact hb
    rw [hbi]
    have hw : w64 ((b : Int) + n) = ((b + n.toNat : Nat) : Int) := by rw [w64_eq]; omega
    have hwa : w64 (a + 1) = a + 1 := by rw [w64_eq]; have := hok.n; omega
    refine Tot.sm ?_
    rw [hw, hwa]
    refine .by' (Ξ := fun x : Bool => (x = true → ∀ r, idx rows a = some r → ∀ p ∈ r, p.At ≠ n) ∧ (x = false → b + n.toNat < c.Chk.length ∧ c.Chk.getD (b + n.toNat) 0 = a + 1)) (Tot.cp (fun h => .so ⟨fun _ r hr p hp e => ?_, fun h => (by cases h)⟩) (fun h => ?_)) fun x hx => Tot.cd (fun h => .so (Eq.symm (none' (hx.1 h)))) (fun h => ?_)
    · obtain ⟨_, b', e', g1, _⟩ := at_ r hr p hp
      rw [hb] at e'
      have : b = b' := by injection e' with e'; omega
      subst this
      subst e
      omega
    · have hl : b + n.toNat < c.Chk.length := by omega
      rw [idx_nat hl]
      have hg : c.Chk.getD (b + n.toNat) 0 = c.Chk[b + n.toNat] := by rw [List.getD_eq_getElem?_getD, List.getElem?_eq_getElem hl]; rfl
      rw [← hg]
      refine Tot.sm (.so ⟨fun h r hr p hp e => ?_, fun h => ⟨hl, by simpa using h⟩⟩)
      obtain ⟨_, b', e', _, g2, _⟩ := at_ r hr p hp
      rw [hb] at e'
      have : b = b' := by injection e' with e'; omega
      subst this
      subst e
      rw [g2] at h
      have : ¬ ((a.toNat : Int) + 1 = a + 1) := by simpa using h
      omega
    · obtain ⟨hl, he⟩ := hx.2 h
      have hlv : b + n.toNat < c.Val.length := by omega
      rw [idx_nat hlv]
      refine Tot.sm (.so ?_)
      obtain ⟨i, hi, r, b', e1, e2, p, hp, e3, e4⟩ := hI.who (b + n.toNat) (by rw [he]; omega)
      rw [he] at e4
      have hia : i = a.toNat := by omega
      subst hia
      rw [hb] at e2
      have : b = b' := by injection e2 with e2; omega
      subst this
      have hra : idx rows a = some r := by rw [idx, if_pos h0]; exact e1
      have hpr := hp0 r hra p hp
      have hpn : p.At = n := by omega
      obtain ⟨_, b', e', _, _, g3⟩ := at_ r hra p hp
      rw [hb] at e'
      have : b = b' := by injection e' with e'; omega
      subst this
      unfold getR
      rw [hra]
      show _ = get r n
      have hgs := get_some (hok.rows r (List.mem_of_getElem? e1)) hp
      rw [hpn, ← g3, hpn, List.getD_eq_getElem?_getD, List.getElem?_eq_getElem hlv] at hgs
      exact hgs.symm
end Go.Proofs
namespace Go.Proofs
open Go Go.Own Go.Sort
set_option maxRecDepth 100000
set_option linter.unusedVariables false
structure Laid (x : List Rw) (o : List Nat) (c : Comb) : Prop where
  ord : Ordr x o
  lst : Lst x o.reverse c
  inv : Inv x o.reverse c
  chk : c.Chk.length ≤ 900000
theorem l41 {x : List Rw} (hx : x.length ≤ 14 ∧ ∀ r ∈ x, Good r) : Tot (pf41 x) fun c => ∃ o, Laid x o c := by
  refine (c41 x (rowsB hx)).use fun c hc => ?_
  obtain ⟨h, o, ho, hL⟩ := hc.2 (rowsOk hx)
  exact ⟨o, ho, hL, hL.inv (rowsOk hx) (by rw [List.pairwise_reverse]; exact ho.pw), h⟩
theorem getR_in {x : List Rw} {a : Int} {r : Rw} (h : idx x a = some r) (n : Int) : getR x a n = get r n := by unfold getR; rw [h]
theorem getR_out {x : List Rw} {a : Int} (h : ¬ (0 ≤ a ∧ a < x.length)) (n : Int) : getR x a n = (0, false) := by
  unfold getR idx
  split
  · rename_i r hr
    split at hr
    · rename_i h0
      have := (List.getElem?_eq_some_iff.1 hr).1
      exact absurd ⟨h0, by omega⟩ h
    · cases hr
  · rfl
theorem gq {x : List Rw} (hx : x.length ≤ 14 ∧ ∀ r ∈ x, Good r) (a n : Int) {α : Type} (K : Int × Bool → Option α) :
    (((bif decide (0 ≤ a) then some (decide (a < (x.length : Int))) else some false)).bind fun c16 =>
((bif c16 then
(idx x a).bind fun x19 =>
(pf43 x19 n).bind fun x20 =>
some (x20.1, x20.2)
else
some (0, false))).bind K) = K (getR x a n) := by
  by_cases h : 0 ≤ a ∧ a < x.length
  · obtain ⟨r, hr, hm⟩ := idx_some' h.1 h.2
    rw [getR_in hr]
    have hrl := (hx.2 r hm).l
    simp [h.1, h.2, hr, g43 r n (by omega)]
  · rw [getR_out h]
    by_cases h0 : 0 ≤ a
    · have : ¬ a < x.length := fun h1 => h ⟨h0, h1⟩
      simp [h0, this]
    · simp [h0]
theorem t9 (a0 : List (List Int)) (a1 a2 a3 : Int) : pf9 a0 a1 a2 a3 = some true := by
  suffices h : Tot (pf9 a0 a1 a2 a3) fun r => r = true by
    obtain ⟨r, hr, e⟩ := h; rw [hr, e]
  unfold pf9
  rw [w37]
  refine Tot.sm (.by' (c38 a0 a1) fun x hx => .by' (l41 hx) fun c hc => ?_)
  obtain ⟨o, hL⟩ := hc
  have hg : ∀ a n, pf44 c a n = some (getR x a n) := fun a n => g44 (rowsOk hx) hL.ord hL.lst hL.inv hL.chk a n
  have hxl := hx.1
  simp only [hg, gq hx, Option.bind_some, decide_true, Bool.not_true, cond_false, beq_self_eq_true]
  refine .by' (Ξ := LR (fun _ => True) (fun _ => False)) ?_ fun y hy => ?_
  · refine Tot.count (fun s => s) ((x.length : Int) + 1) (fun s => -1 ≤ s) (Int.le_refl _) (by show (x.length : Int) + 1 - (-1) < _; omega) fun s hs => ?_
    refine Tot.cp (fun h => .by' (Ξ := LR (fun _ => True) (fun _ => False)) ?_ fun y hy => ?_) (fun h => .so trivial)
    · refine Tot.count (fun s => s) 70 (fun s => -1 ≤ s) (Int.le_refl _) (by decide) fun s hs => ?_
      refine Tot.cp (fun h => .so ⟨?_, ?_, ?_⟩) (fun h => .so trivial)
      · show -1 ≤ w64 (s + 1); rw [w64_eq]; omega
      · show s < w64 (s + 1); rw [w64_eq]; omega
      · show w64 (s + 1) ≤ 70; rw [w64_eq]; omega
    · rcases y with y | y
      · refine .so ⟨?_, ?_, ?_⟩
        · show -1 ≤ w64 (s + 1); rw [w64_eq]; omega
        · show s < w64 (s + 1); rw [w64_eq]; omega
        · show w64 (s + 1) ≤ _; rw [w64_eq]; omega
      · exact hy.elim
  · rcases y with y | y
    · refine .by' (Ξ := fun r => r = true) ?_ fun r hr => .so hr
      refine Tot.cp (fun h => Tot.cp (fun h' => .so rfl) (fun h' => .so ?_)) (fun h => .so ?_)
      · rw [getR_out (fun hh => h' hh.2)]; rfl
      · rw [getR_out (fun hh => h hh.1)]; rfl
    · exact hy.elim
end Go.Proofs
namespace Go.Proofs
open Go Go.Own Go.Sort
set_option maxRecDepth 100000
set_option linter.unusedVariables false
theorem Laid.row {x : List Rw} {o : List Nat} {c : Comb} (h : Laid x o c) {k : Nat} {r : Rw} (hr : x[k]? = some r) : ∃ b : Nat, c.Base[k]? = some (b : Int) ∧ b ≤ 900000 ∧ (r = [] → b = 0) ∧ (r ≠ [] → k ∈ o) ∧ ∀ p ∈ r, b + p.At.toNat < c.Chk.length ∧ c.Chk.getD (b + p.At.toNat) 0 = (k : Int) + 1 ∧ c.Val.getD (b + p.At.toNat) 0 = p.Val := by
  by_cases hk : k ∈ o
  · obtain ⟨r', b, h1, h2, h3⟩ := h.inv.own k (List.mem_reverse.2 hk)
    rw [hr] at h1; cases h1
    obtain ⟨r', e1, e2⟩ := (h.ord.mem k).1 hk
    rw [hr] at e1; cases e1
    obtain ⟨p, hp⟩ := List.exists_mem_of_ne_nil _ e2
    have := (h3 p hp).1
    have := h.chk
    exact ⟨b, h2, by omega, fun e => absurd e e2, fun _ => hk, h3⟩
  · have hn : r = [] := Classical.byContradiction fun hne => hk ((h.ord.mem k).2 ⟨r, hr, hne⟩)
    refine ⟨0, h.lst.rest k (List.getElem?_eq_some_iff.1 hr).1 (by simpa using hk), by omega, fun _ => rfl, fun e => absurd hn e, fun p hp => ?_⟩
    rw [hn] at hp
    simp at hp
end Go.Proofs
namespace Go.Own
open Go Go.ChangeShapes Go.WideShapes Go.ChangeAt Go.RowKit
variable {H : Type} {enc : TypeId × Value → H} {P : Program}
theorem post_old {f : Func} {s : ChangeSpec} {apart fresh handsOn again : Bool} {W W' : World} {args : Array Value} {v : Value} {ds gs : List (DataW H)} {before pa pv : List MemPlace}
    (hW : DataW.Whole enc P f.params.toList s.vars apart W args.toList ds gs before) (hk : Kp W W') (hps : before = pa ++ pv)
    (hres : ∀ (b : Nat) (sp : Nat → Bool) (hd : Bool), DataW.TrodAll enc P W' b sp hd f.resultTypes.toList (v.resultList f.resultTypes.size) (s.fn H (ds ++ gs)).results [])
    (hargs : ∀ sp : Nat → Bool, (∀ p ∈ before, sp p.block = true) → DataW.TrodAll enc P W' 0 sp true f.params.toList args.toList (s.fn H (ds ++ gs)).args pa)
    (hvars : ∀ sp : Nat → Bool, (∀ p ∈ before, sp p.block = true) → DataW.TrodVars enc P W' sp s.vars (s.fn H (ds ++ gs)).vars pv)
    (hok : ∀ (j : Nat) (t : TypeId) (r : Value), f.resultTypes[j]? = some t → (v.resultList f.resultTypes.size)[j]? = some r → Value.okWide P W' .any 0 t r) :
    s.post enc P f apart fresh handsOn again W args v W' := by
  subst hps
  have hlt : ∀ p ∈ pa ++ pv, p.block < W.heap.size := fun p hp => hW.lt p hp
  have hsp : ∀ p ∈ pa ++ pv, (fun b => decide (b < W.heap.size)) p.block = true := fun p hp => decide_eq_true (hlt p hp)
  have hWh := hW
  obtain ⟨_, _, _, _, _, hz, hn⟩ := hWh
  have ht := trodAll_append (hargs (fun _ => true) (fun _ _ => rfl)) (hres 0 (fun _ => true) true)
  refine ⟨ds, gs, pa ++ pv, [], pa, pv, hW, hres _ _ _, hargs _ hsp, hvars _ hsp, hk.kept _, fun _ => ⟨hok, _, _, pa ++ pv, ⟨_, pv, ht, hvars _ (fun _ _ => rfl), rfl, fun b off hp => ?_, hn⟩, fun p hp _ => hp⟩⟩
  rw [hk.fz _ (hlt _ hp)]
  exact hz b off hp
end Go.Own
namespace Go.Proofs
open Go Go.Own
set_option maxRecDepth 100000
theorem uI : Try.prog.underlying 3 = some (.int .i64) := by kernel_rfl
def okI (n : Int) : Prop := (Lit.int .i64 n).wf = true
def okL {α : Type} (p : α → Prop) (l : List α) : Prop := l.length ≤ maxLen ∧ ∀ x ∈ l, p x
def okPair (x : Pair) : Prop := okI x.At ∧ okI x.Val ∧ True
theorem aI : Ar Try.prog eI 3 okI := .int uI (by kernel_rfl) fun _ => rfl
theorem uLI : Try.prog.underlying 33 = some (.slice 3) := by kernel_rfl
theorem aLI : Ar Try.prog (eM eI) 33 (okL okI) := aI.slice (t := 33) uLI (by kernel_rfl) (by decide)
theorem uLLI : Try.prog.underlying 40 = some (.slice 33) := by kernel_rfl
theorem aLLI : Ar Try.prog (eM (eM eI)) 40 (okL (okL okI)) := aLI.slice (t := 40) uLLI (by kernel_rfl) (by decide)
theorem aPair : Ar Try.prog ePair 61 okPair := .struct (t := 61) (.cons aI (.cons aI .nil)) (fun b => (⟨b.1, b.2.1⟩ : Pair)) (fun x => (x.At, x.Val, ())) (fun _ => rfl) (fun _ => rfl) (by kernel_rfl) (by kernel_rfl)
theorem aLP : Ar Try.prog (eM ePair) 53 (okL okPair) := aPair.slice (by kernel_rfl) (by kernel_rfl) (by decide)
theorem uLLP : Try.prog.underlying 78 = some (.slice 53) := by kernel_rfl
theorem aLLP : Ar Try.prog (eM (eM ePair)) 78 (okL (okL okPair)) := aLP.slice uLLP (by kernel_rfl) (by decide)
theorem pLaid : laidOutB Try.prog = true := by kernel_rfl
theorem pMaps : mapsRowed Try.prog = true := by kernel_rfl
theorem pFull : ((List.range Try.prog.types.size).all fun t => match Try.prog.underlying t with | some (.slice e) => decide (0 < Try.prog.cellsOf e) | _ => true) = true := by kernel_rfl
end Go.Proofs
