import Derived.Test.YteohndfkdfehcaaC4
namespace Go.Proofs
open Go Go.Own
set_option maxRecDepth 100000

theorem quote_plain_all : (List.range 127).all (fun n => decide (plainB (n : Int) = true → (quoteP (n : Int)).size = 3 ∧ byteAt (quoteP (n : Int)) 0 = 39 ∧ byteAt (quoteP (n : Int)) 1 = n ∧ byteAt (quoteP (n : Int)) 2 = 39)) = true := by kernel_rfl

theorem quote_plain (c : Int) (h : plainB c = true) : 32 ≤ c ∧ c ≤ 126 ∧ (quoteP c).size = 3 ∧ byteAt (quoteP c) 0 = 39 ∧ byteAt (quoteP c) 1 = c ∧ byteAt (quoteP c) 2 = 39 := by
  have hr : 32 ≤ c ∧ c ≤ 126 := by
    simp only [plainB, decide_eq_true_eq] at h
    omega
  obtain ⟨n, rfl⟩ := Int.eq_ofNat_of_zero_le (show 0 ≤ c by omega)
  have := List.all_eq_true.1 quote_plain_all n (by simp; omega)
  simp only [decide_eq_true_eq] at this
  exact ⟨hr.1, hr.2, this h⟩

theorem quote_esc_all : (List.range 256).all (fun n => decide (0 ≤ firstIdx lettersB ((n : Int).toNat.toUInt8) → 9 ≤ byteAt standB (firstIdx lettersB ((n : Int).toNat.toUInt8)) ∧ byteAt standB (firstIdx lettersB ((n : Int).toNat.toUInt8)) ≤ 126 ∧
    (quoteP (byteAt standB (firstIdx lettersB ((n : Int).toNat.toUInt8)))).size = 4 ∧ byteAt (quoteP (byteAt standB (firstIdx lettersB ((n : Int).toNat.toUInt8)))) 0 = 39 ∧ byteAt (quoteP (byteAt standB (firstIdx lettersB ((n : Int).toNat.toUInt8)))) 1 = 92 ∧
    byteAt (quoteP (byteAt standB (firstIdx lettersB ((n : Int).toNat.toUInt8)))) 2 = n ∧ byteAt (quoteP (byteAt standB (firstIdx lettersB ((n : Int).toNat.toUInt8)))) 3 = 39)) = true := by kernel_rfl

theorem quote_esc (b : Int) (h : 0 ≤ b ∧ b ≤ 255) (x : Int) (hx : x = byteAt standB (firstIdx lettersB b.toNat.toUInt8)) (hk : 0 ≤ firstIdx lettersB b.toNat.toUInt8) : 9 ≤ x ∧ x ≤ 126 ∧ (quoteP x).size = 4 ∧ byteAt (quoteP x) 0 = 39 ∧ byteAt (quoteP x) 1 = 92 ∧ byteAt (quoteP x) 2 = b ∧ byteAt (quoteP x) 3 = 39 := by
  obtain ⟨n, rfl⟩ := Int.eq_ofNat_of_zero_le h.1
  have := List.all_eq_true.1 quote_esc_all n (by simp; omega)
  simp only [decide_eq_true_eq] at this
  subst hx
  exact this hk

theorem take_back {s : ByteArray} {m x e : Int} (h : takeP s m = some (x, e)) : 0 ≤ m ∧ 9 ≤ x ∧ x ≤ 126 ∧ quoteP x ≠ { data := #[] } ∧ ((quoteP x).size : Int) ≤ s.size - m ∧ cutS s m (m + (quoteP x).size) = quoteP x := by
  have h0 : ByteArray.size { data := #[] } = 0 := rfl
  have cut : 0 ≤ m → m + (quoteP x).size ≤ s.size → (∀ i : Nat, i < (quoteP x).size → byteAt s (m + i) = byteAt (quoteP x) i) → cutS s m (m + (quoteP x).size) = quoteP x := by
    intro hm hs hb
    have hsz := cutS_size (s := s) (m := m) (n := m + (quoteP x).size) ⟨hm, by omega, hs⟩
    refine bytes_eq (by omega) fun i hi => ?_
    rw [byteAt_cut ⟨hm, by omega, hs⟩ ⟨by omega, by omega⟩]
    exact hb i (by omega)
  unfold takeP at h
  split at h
  · cases h
  · rename_i h1
    split at h
    · rename_i h2
      simp only [Option.some.injEq, Prod.mk.injEq] at h
      rw [h.1] at h2
      obtain ⟨r1, r2, q0, q1, q2, q3⟩ := quote_plain x h2.1
      refine ⟨by omega, by omega, r2, fun hq => by rw [hq] at q0; omega, by omega, cut (by omega) (by omega) fun i hi => ?_⟩
      rw [q0] at hi
      have : i = 0 ∨ i = 1 ∨ i = 2 := by omega
      rcases this with rfl | rfl | rfl
      · simp only [Int.natCast_zero, Int.add_zero]; rw [q1]; omega
      · show byteAt s (m + 1) = byteAt (quoteP x) 1
        rw [q2, h.1]
      · show byteAt s (m + 2) = byteAt (quoteP x) 2
        rw [q3, h2.2]
    · rename_i h2
      split at h
      · cases h
      · rename_i h3
        split at h
        · cases h
        · rename_i h4
          simp only [Option.some.injEq, Prod.mk.injEq] at h
          obtain ⟨r1, r2, q0, q1, q2, q3, q4⟩ := quote_esc (byteAt s (m + 2)) (byteAt_range _ _) x h.1.symm (by omega)
          refine ⟨by omega, r1, r2, fun hq => by rw [hq] at q0; omega, by omega, cut (by omega) (by omega) fun i hi => ?_⟩
          rw [q0] at hi
          have : i = 0 ∨ i = 1 ∨ i = 2 ∨ i = 3 := by omega
          rcases this with rfl | rfl | rfl | rfl
          · simp only [Int.natCast_zero, Int.add_zero]; rw [q1]; omega
          · show byteAt s (m + 1) = byteAt (quoteP x) 1
            rw [q2]; omega
          · show byteAt s (m + 2) = byteAt (quoteP x) 2
            rw [q3]
          · show byteAt s (m + 3) = byteAt (quoteP x) 3
            rw [q4]; omega

theorem takeRF_eq {s : ByteArray} {m : Int} (hm : 0 ≤ m) (hs : m < s.size) : ∀ (n : Nat) (c : Int), 9 ≤ c → c + n = 127 → (∀ x e, takeP s m = some (x, e) → c ≤ x) → takeRF s m n c = takeP s m
  | 0, c, _, hc, h => by
    rw [takeRF]
    cases ht : takeP s m with
    | none => rfl
    | some p =>
      obtain ⟨x, e⟩ := p
      have h1 := h x e ht
      have h2 := take_back ht
      omega
  | n + 1, c, h9, hc, h => by
    rw [takeRF]
    split
    · rename_i hq
      obtain ⟨q1, q2, q3⟩ := hq
      rw [take_local hm (by omega) q3 (quote_take c ⟨h9, by omega⟩ q1)]
    · rename_i hq
      refine takeRF_eq hm hs n (c + 1) (by omega) (by omega) fun x e hx => ?_
      have h1 := h x e hx
      obtain ⟨_, _, _, t1, t2, t3⟩ := take_back hx
      rcases Int.lt_or_eq_of_le h1 with h2 | h2
      · omega
      · subst h2
        exact absurd ⟨t1, t2, t3⟩ hq

theorem take_eq (s : ByteArray) (m : Int) : takeR s m = takeP s m := by
  unfold takeR
  split
  · rename_i h
    unfold takeP
    rw [if_pos (by omega)]
  · rename_i h
    exact takeRF_eq (by omega) (by omega) 118 9 (by omega) (by omega) fun x e hx => (take_back hx).2.1
end Go.Proofs
