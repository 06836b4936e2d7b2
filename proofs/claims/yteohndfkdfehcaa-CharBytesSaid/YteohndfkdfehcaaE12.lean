import Derived.Test.YteohndfkdfehcaaE11
namespace Go.Own
open Go

/-- What an operation leaves in its slot, and in the world. -/
def Gives (w : World) (I : BSet) (T : Array Value) (g : Gst) (Fs : Nat → BSet) (x : AV) (v : Value) (w' : World) : Prop :=
  ∃ F I', SR w' I' T g Fs ∧ RT w' I' (RG w' T g) x v F ∧ (∀ t c, F c → ¬ Fs t c) ∧ (∀ c, F c → w.heap.size ≤ c ∧ ¬ I' c) ∧ (∀ c, I c → I' c) ∧ (∀ c, I' c → I c ∨ w.heap.size ≤ c) ∧ Fr w w' (fun c => ∃ t, Fs t c) ∧ (∀ z p n m new, x = .pend z p n m new → ∀ t z' n' m' new', g t ≠ some (.pend z' p n' m' new'))

/-- The cells that an append takes over. -/
inductive Src (g : Gst) : AV → Nat → Nat → List AV → Prop
  | imm {z m : Nat} {cs : List AV} : Src g (.imm z m cs) z m cs
  | nils {z : Nat} : Src g .nils z 0 []
  | brw {z m N : Nat} {q : Place} {cs : List AV} (hq : atP g q = some (.own z N cs)) (hm : m ≤ N) : Src g (.brw z q m) z m ((cs.take (m * z)).mapIdx fun i x => refIn 0 (q.push i) x)
  | sub {z lo m N : Nat} {q : Place} {cs : List AV} (hq : atP g q = some (.own z N cs)) (hm : lo + m ≤ N) : Src g (.sub z q lo m) z m (((cs.drop (lo * z)).take (m * z)).mapIdx fun i x => refIn 0 (q.push (lo * z + i)) x)

def appT (P : Program) (t e : TypeId) (z b : Nat) : Bool :=
  match P.underlying t, P.info? e with
  | some (.slice e'), some i => e' == e && i.size == z && i.bytes == b && z != 0 && (match i.zero with | some v => v.cells.size == z | none => false)
  | _, _ => false

section
variable {P : Program} {w : World} {I : BSet} {T : Array Value} {g : Gst} {Fs : Nat → BSet}

theorem appT_spec {t e : TypeId} {z b : Nat} (h : appT P t e z b = true) : ∃ i zv, P.underlying t = some (.slice e) ∧ P.info? e = some i ∧ i.size = z ∧ i.bytes = b ∧ 0 < z ∧ i.zero = some zv ∧ zv.cells.size = z := by
  unfold appT at h
  cases hu : P.underlying t with
  | none => simp [hu] at h
  | some d =>
    cases hi : P.info? e with
    | none => cases d <;> simp [hu, hi] at h
    | some i =>
      cases d <;> simp [hu, hi] at h
      obtain ⟨⟨⟨⟨rfl, h1⟩, h2⟩, h3⟩, h4⟩ := h
      cases hz : i.zero with
      | none => simp [hz] at h4
      | some zv => simp [hz] at h4; exact ⟨i, zv, rfl, rfl, h1, h2, by omega, hz, h4⟩

theorem Src.sound (h : SR w I T g Fs) {y : AV} {v : Value} {z m : Nat} {cells : List AV} (hs : Src g y z m cells) (hR : R w I (RG w T g) y v E0) :
    ∃ (a : Option Addr) (c : Nat) (news : List Value), v = .slice a m c ∧ news.length = m * z ∧ (0 < m → 0 < z → a.isSome = true) ∧ (∀ ad, a = some ad → ∀ (j : Nat) (u : Value), news[j]? = some u → w.cell? (ad.add j) = some u) ∧ Cells w I (RG w T g) cells news := by
  have ofNode : ∀ {q : Place} {N : Nat} {cs : List AV} (lo : Nat) {a : Option Addr} {cap : Nat}, atP g q = some (.own z N cs) → valAt w T q = some (.slice a N cap) → lo + m ≤ N →
      ∃ news : List Value, news.length = m * z ∧ (∀ ad, a = some ad → ∀ (j : Nat) (u : Value), news[j]? = some u → w.cell? ⟨ad.block, lo * z + j, none⟩ = some u) ∧ Cells w I (RG w T g) (((cs.drop (lo * z)).take (m * z)).mapIdx fun i x => refIn 0 (q.push (lo * z + i)) x) news ∧ (0 < m → 0 < z → ∃ b, a = some ⟨b, 0, none⟩) := by
    intro q N cs lo a cap hq hv hm
    obtain ⟨v', Fy, hv', hRy, _⟩ := h.part hq (by simp)
    rw [hv] at hv'
    cases hv'
    obtain ⟨a', cap', hsl, _, hlen, hoff, _⟩ := hRy.own_slice
    cases hsl
    have hbd : lo * z + m * z ≤ cs.length := by rw [hlen, ← Nat.add_mul]; exact Nat.mul_le_mul_right _ hm
    have cell : ∀ j, j < m * z → ∃ b uu xx, a = some ⟨b, 0, none⟩ ∧ w.cell? ⟨b, lo * z + j, none⟩ = some uu ∧ uu.oneCell' = true ∧ cs[lo * z + j]? = some xx ∧ R w I (RG w T g) (refIn 0 (q.push (lo * z + j)) xx) uu E0 := by
      intro j hj
      have hx' : cs[lo * z + j]? = some cs[lo * z + j] := List.getElem?_eq_getElem (by omega)
      obtain ⟨b, uu, had, hcell, hch, hone, Fk, hRk⟩ := hRy.node (.inl rfl) hx'
      refine ⟨b, uu, _, ?_, hcell, hone, hx', refIn_sound 0 (by rw [atP_push, hq]; simp [AV.kids]) (by rw [valAt_push, hv]; exact hch) hRk⟩
      cases a with
      | none => simp [addrOf] at had
      | some ad => simp only [addrOf] at had; rw [Option.some.inj had]
    have hnews : ∃ news : List Value, news.length = m * z ∧ ∀ j, j < m * z → ∃ b uu xx, news[j]? = some uu ∧ a = some ⟨b, 0, none⟩ ∧ w.cell? ⟨b, lo * z + j, none⟩ = some uu ∧ uu.oneCell' = true ∧ cs[lo * z + j]? = some xx ∧ R w I (RG w T g) (refIn 0 (q.push (lo * z + j)) xx) uu E0 := by
      refine ⟨(List.range (m * z)).map fun j => (w.cell? ⟨(a.map (·.block)).getD 0, lo * z + j, none⟩).getD undef, by simp, fun j hj => ?_⟩
      obtain ⟨b, uu, xx, h1, h2, h3, h4, h5⟩ := cell j hj
      refine ⟨b, uu, xx, ?_, h1, h2, h3, h4, h5⟩
      rw [List.getElem?_map, List.getElem?_range hj, h1]
      simp [h2]
    obtain ⟨news, hl, hn⟩ := hnews
    refine ⟨news, hl, fun ad had j u hj => ?_, ⟨?_, fun j u hj => ?_, fun j x u hx hj => ?_⟩, fun hm0 hz0 => ?_⟩
    · obtain ⟨b, uu, xx, h1, h2, h3, _⟩ := hn j (by rw [← hl]; exact (List.getElem?_eq_some_iff.1 hj).1)
      rw [h1] at hj; cases hj
      rw [had] at h2; cases h2
      exact h3
    · simp; omega
    · obtain ⟨b, uu, xx, h1, h2, h3, h4, _⟩ := hn j (by rw [← hl]; exact (List.getElem?_eq_some_iff.1 hj).1)
      rw [h1] at hj; cases hj; exact h4
    · obtain ⟨b, uu, xx, h1, h2, h3, h4, h5, h6⟩ := hn j (by rw [← hl]; exact (List.getElem?_eq_some_iff.1 hj).1)
      rw [h1] at hj; cases hj
      rw [List.getElem?_mapIdx, List.getElem?_take] at hx
      split at hx
      · rw [List.getElem?_drop, h5] at hx
        simp only [Option.map_some, Option.some.injEq] at hx
        rw [← hx]; exact h6
      · cases hx
    · obtain ⟨b, _, _, h1, _⟩ := cell 0 (Nat.mul_pos hm0 hz0)
      exact ⟨b, h1⟩
  cases hs with
  | imm =>
    obtain ⟨a, cap, rfl, _, hlen, hm⟩ := hR.inv_imm
    by_cases h0 : cells ≠ [] ∨ 0 < m
    · obtain ⟨ad, us, rfl, hI, hsp, hone, hc, hr⟩ := hm h0
      refine ⟨_, cap, (List.range cells.length).map us, rfl, by simp [hlen], by simp, fun ad' had j u hj => ?_, ⟨by simp, fun j u hj => ?_, fun j x u hx hj => ?_⟩⟩
      · cases had
        rw [List.getElem?_map] at hj
        by_cases hjl : j < cells.length
        · rw [List.getElem?_range hjl] at hj
          simp only [Option.map_some, Option.some.injEq] at hj
          obtain ⟨b, o, sp⟩ := ad
          simp only at hsp
          subst hsp
          rw [add_eq, ← hj]
          exact hc j _ (List.getElem?_eq_getElem hjl)
        · rw [List.getElem?_eq_none (by simp; omega)] at hj; cases hj
      · rw [List.getElem?_map] at hj
        by_cases hjl : j < cells.length
        · rw [List.getElem?_range hjl] at hj
          simp only [Option.map_some, Option.some.injEq] at hj
          rw [← hj]
          exact hone j _ (List.getElem?_eq_getElem hjl)
        · rw [List.getElem?_eq_none (by simp; omega)] at hj; cases hj
      · rw [List.getElem?_map] at hj
        have hjl : j < cells.length := (List.getElem?_eq_some_iff.1 hx).1
        rw [List.getElem?_range hjl] at hj
        simp only [Option.map_some, Option.some.injEq] at hj
        rw [← hj]
        exact hr j x hx
    · have hm0 : m = 0 := by omega
      have hc0 : cells = [] := Classical.byContradiction fun e => h0 (.inl e)
      subst hm0 hc0
      exact ⟨a, cap, [], rfl, by simp, by simp, by simp, by simp [Cells]⟩
  | nils =>
    rw [hR.inv_nils]
    exact ⟨none, 0, [], rfl, by simp, by simp, by simp, by simp [Cells]⟩
  | @brw _ _ N q cs hq hm =>
    obtain ⟨⟨a, N', cap, h1, rfl, h3⟩, h4⟩ := hR.inv_brw
    obtain ⟨v', Fy, hv', hRy, _⟩ := h.part hq (by simp)
    obtain ⟨a', cap', hsl, _⟩ := hRy.own_slice
    rw [h1] at hv'
    cases hv'
    cases hsl
    obtain ⟨news, hl, hc, hcs, ha⟩ := ofNode 0 hq h1 (by omega)
    simp only [Nat.zero_mul, List.drop_zero, Nat.zero_add] at hcs hc
    refine ⟨a, cap, news, rfl, hl, fun h0 h0' => by obtain ⟨b, rfl⟩ := ha h0 h0'; rfl, fun ad had j u hj => ?_, hcs⟩
    have hj' := hc ad had j u hj
    by_cases h0 : 0 < m ∧ 0 < z
    · obtain ⟨b, hb⟩ := ha h0.1 h0.2
      rw [had] at hb; cases hb
      rw [add_eq]; simpa using hj'
    · have : m * z = 0 := by
        rcases Nat.eq_zero_or_pos m with h | h
        · simp [h]
        · rcases Nat.eq_zero_or_pos z with h' | h'
          · simp [h']
          · exact absurd ⟨h, h'⟩ h0
      have := (List.getElem?_eq_some_iff.1 hj).1
      omega
  | @sub _ lo _ N q cs hq hm =>
    obtain ⟨⟨a, N', cap, a', cap', h1, rfl, _, h3, h5⟩, h4⟩ := hR.inv_sub
    obtain ⟨v', Fy, hv', hRy, _⟩ := h.part hq (by simp)
    obtain ⟨a2, cap2, hsl, _⟩ := hRy.own_slice
    rw [h1] at hv'
    cases hv'
    cases hsl
    obtain ⟨news, hl, hc, hcs, ha⟩ := ofNode lo hq h1 hm
    refine ⟨a', cap', news, rfl, hl, fun h0 _ => by obtain ⟨ad, _, rfl⟩ := h5 h0; rfl, fun ad had j u hj => ?_, hcs⟩
    have hlt := (List.getElem?_eq_some_iff.1 hj).1
    have h0 : 0 < m := by rcases Nat.eq_zero_or_pos m with h | h; · rw [h] at hl; omega
                          · exact h
    have hz : 0 < z := by rcases Nat.eq_zero_or_pos z with h | h; · rw [h] at hl; omega
                          · exact h
    obtain ⟨ad', h6, h7⟩ := h5 h0
    obtain ⟨b, hb⟩ := ha h0 hz
    rw [h6] at hb; cases hb
    rw [had] at h7; cases h7
    have hj' := hc _ h6 j u hj
    rw [add_eq]; simpa using hj'
end
end Go.Own
