import Derived.Test.YteohndfkdfehcaaC3
namespace Go.Proofs
open Go Go.Own
set_option maxRecDepth 100000

theorem text_quote_all : (List.range 256).all (fun n => decide (textP (n : Int) = quoteP (n : Int))) = true := by kernel_rfl

theorem text_quote (c : Int) (h : 0 ≤ c ∧ c ≤ 255) : textP c = quoteP c := by
  obtain ⟨n, rfl⟩ := Int.eq_ofNat_of_zero_le h.1
  have := List.all_eq_true.1 text_quote_all n (by simp; omega)
  simpa using this

theorem quote_take_all : (List.range 118).all (fun n => decide (quoteP ((n : Int) + 9) = { data := #[] } ∨ takeP (quoteP ((n : Int) + 9)) 0 = some ((n : Int) + 9, ((quoteP ((n : Int) + 9)).size : Int)))) = true := by kernel_rfl

theorem quote_take (c : Int) (h : 9 ≤ c ∧ c ≤ 126) (hq : quoteP c ≠ { data := #[] }) : takeP (quoteP c) 0 = some (c, ((quoteP c).size : Int)) := by
  obtain ⟨n, hn⟩ := Int.eq_ofNat_of_zero_le (show 0 ≤ c - 9 by omega)
  have hc : c = (n : Int) + 9 := by omega
  subst hc
  have := List.all_eq_true.1 quote_take_all n (by simp; omega)
  simp only [decide_eq_true_eq] at this
  exact this.resolve_left hq

theorem byteAt_cut {s : ByteArray} {m n i : Int} (h : 0 ≤ m ∧ m ≤ n ∧ n ≤ s.size) (hi : 0 ≤ i ∧ i < n - m) : byteAt (cutS s m n) i = byteAt s (m + i) := by
  unfold byteAt cutS
  obtain ⟨a, rfl⟩ := Int.eq_ofNat_of_zero_le h.1
  obtain ⟨b, rfl⟩ := Int.eq_ofNat_of_zero_le (show 0 ≤ n by omega)
  obtain ⟨j, rfl⟩ := Int.eq_ofNat_of_zero_le hi.1
  have h1 : j < (s.extract a b).size := by rw [ByteArray.size_extract]; omega
  have h2 : a + j < s.size := by omega
  have e : ((a : Int) + (j : Int)).toNat = a + j := by omega
  simp only [Int.toNat_natCast, e]
  rw [getElem?_pos (s.extract a b) j h1, getElem?_pos s (a + j) h2]
  simp [ByteArray.getElem_extract]

theorem take_local {s q : ByteArray} {m c : Int} (hm : 0 ≤ m) (hq : m + q.size ≤ s.size) (hc : cutS s m (m + q.size) = q) (ht : takeP q 0 = some (c, (q.size : Int))) : takeP s m = some (c, m + q.size) := by
  have hb : ∀ i : Int, 0 ≤ i → i < q.size → byteAt s (m + i) = byteAt q i := by
    intro i h0 h1
    rw [← byteAt_cut (s := s) (m := m) (n := m + q.size) ⟨hm, by omega, hq⟩ ⟨h0, by omega⟩, hc]
  unfold takeP at ht
  split at ht
  · cases ht
  · rename_i h1
    have h3 : 3 ≤ (q.size : Int) := by omega
    have b0 := hb 0 (by omega) (by omega)
    have b1 := hb 1 (by omega) (by omega)
    have b2 := hb 2 (by omega) (by omega)
    rw [Int.add_zero] at b0
    simp only [Int.zero_add] at ht h1
    split at ht
    · rename_i h2
      simp only [Option.some.injEq, Prod.mk.injEq] at ht
      unfold takeP
      rw [if_neg (by rw [b0]; omega), if_pos (by rw [b1, b2]; exact h2), b1, ht.1, ← ht.2]
    · rename_i h2
      split at ht
      · cases ht
      · rename_i h4
        have b3 := hb 3 (by omega) (by omega)
        split at ht
        · cases ht
        · rename_i h5
          simp only [Option.some.injEq, Prod.mk.injEq] at ht
          unfold takeP
          rw [if_neg (by rw [b0]; omega), if_neg (by rw [b1, b2]; exact h2), if_neg (by rw [b1, b3]; omega), b2, if_neg h5, ht.1, ← ht.2]

theorem bytes_eq {s u : ByteArray} (hs : s.size = u.size) (h : ∀ i : Nat, i < s.size → byteAt s i = byteAt u i) : s = u := by
  apply ByteArray.ext_getElem hs
  intro i h1 h2
  have := h i h1
  unfold byteAt at this
  simp only [Int.toNat_natCast] at this
  rw [getElem?_pos s i h1, getElem?_pos u i h2] at this
  simp only [Option.getD_some] at this
  exact UInt8.toNat_inj.1 (by omega)
end Go.Proofs
