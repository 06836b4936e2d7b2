/-
  What is proved here: parts of the proof that QT states last: rules for walks through code, and of this program's functions what they answer. No condition of their own.
-/
import Derived.KernelRfl
import Derived.Test.YteohndfkdfehcaaE6
namespace Go.Proofs
open Go Go.Own
set_option maxRecDepth 100000
set_option linter.unusedVariables false
theorem t25 (a n : Int) (h : 0 < n) (hn : n ≤ 9223372036854775807) : Tot (pf25 a n) fun r => 0 ≤ r ∧ r < n := by
  unfold pf25
  have h1 : -n < a.tmod n := by
    by_cases ha : 0 ≤ a
    · have := Int.tmod_nonneg n ha; omega
    · have h2 : (-a).tmod n < n := Int.tmod_lt_of_pos _ h
      rw [Int.neg_tmod] at h2
      omega
  have h2 : a.tmod n < n := Int.tmod_lt_of_pos a h
  refine .by' (Ξ := fun x => x = a.tmod n) (Tot.rem (by omega) rfl) fun x hx => ?_
  subst hx
  refine Tot.by' (Ξ := fun r => 0 ≤ r ∧ r < n) (Tot.cp (fun h3 => .so ?_) (fun h3 => .so (by omega))) fun r hr => .so hr
  rw [w64_eq]; omega
theorem t49 (k : Int) (h : 0 ≤ k) : Tot (pf49 k) fun x => x.Name.size = 1 ∧ x.Lit = true ∧ x.Num = 0 := by
  unfold pf49
  refine .by' (Ξ := fun x => x.size = 4) (.so rfl) fun x1 h1 => .by' (Ξ := fun r => r = k.tmod 4) (Tot.rem (by decide) rfl) fun x2 h2 => .by' (Ξ := fun r => r = k.tmod 4) (Tot.rem (by decide) rfl) fun x3 h3 => ?_
  subst h2 h3
  have e : k.tmod 4 = k % 4 := Int.tmod_eq_emod_of_nonneg h
  rw [e]
  have hw : w64 (k % 4 + 1) = k % 4 + 1 := by rw [w64_eq]; omega
  rw [hw]
  refine .by' (Ξ := fun x => x.size = 1) (Tot.cut (by rw [h1]; omega) ?_) fun x4 h4 => .so ⟨h4, rfl, rfl⟩
  have := cutS_size (s := x1) (m := k % 4) (n := k % 4 + 1) (by rw [h1]; omega)
  omega
theorem t47 (k : Int) : Tot (pf47 k) fun x => x.size = 1 := by
  unfold pf47
  exact .so (by rw [size_nums]; rfl)
theorem t48 (k n : Int) (h : 0 < n) (hn : n ≤ 100) : Tot (pf48 k n) fun x => x.Name.size ≤ 5 := by
  unfold pf48
  refine .by' (t25 k 14 (by decide) (by decide)) fun x1 h1 => Tot.cp (fun h5 => ?_) (fun h5 => Tot.cd (fun _ => .so ?_) (fun _ => ?_))
  · refine .by' (Ξ := fun _ => True) (Tot.rem (by omega) trivial) fun x3 _ => .by' (t47 x3) fun x4 h4 => .so ?_
    show x4.size ≤ 5; omega
  · show (5 : Nat) ≤ 5; omega
  · refine .by' (t49 _ ?_) fun x hx => .so (by omega)
    rw [w64_eq]; omega
structure DclB (n : Nat) (d : Decl) : Prop where
  tag : d.Tag.size = 0
  n : d.Syms.length ≤ n
  syms : ∀ x ∈ d.Syms, x.Name.size ≤ big
theorem t46 (l : List Int) : Tot (pf46 l) fun r => r.length ≤ 4 ∧ ∀ d ∈ r, DclB 10 d := by
  unfold pf46
  refine Tot.by' (Ξ := fun r => r.length ≤ 4 ∧ ∀ d ∈ r, DclB 10 d) ?_ fun r hr => .so hr
  refine Tot.count (fun s => s.2) 4 (fun s => 0 ≤ s.2 ∧ s.2 ≤ 4 ∧ s.1.length ≤ s.2.toNat ∧ ∀ d ∈ s.1, DclB (1 + s.2.toNat) d) ⟨Int.le_refl 0, by decide, Nat.le_refl 0, fun d hd => absurd hd (by simp)⟩ (by decide) fun s hs => ?_
  obtain ⟨r, i⟩ := s
  obtain ⟨h0, h4, hl, hd⟩ := hs
  simp only at h0 h4 hl hd ⊢
  have hw : w64 (i + 1) = i + 1 := by rw [w64_eq]; omega
  rw [hw]
  refine .by' (Ξ := fun c => c = true → i < l.length ∧ i < 4) (Tot.cp (fun h => .so fun h2 => ⟨h, of_decide_eq_true h2⟩) (fun _ => .so fun h => by cases h)) fun c hc => Tot.cd (fun hc1 => ?_) (fun _ => .so ⟨by omega, fun d hdm => ⟨(hd d hdm).tag, by have := (hd d hdm).n; omega, (hd d hdm).syms⟩⟩)
  obtain ⟨hi, hi4⟩ := hc hc1
  refine Tot.by' (Ξ := fun j => j.length ≤ i.toNat + 1 ∧ ∀ d ∈ j, DclB (1 + (i.toNat + 1)) d) ?_ fun j hj => .so ⟨⟨?_, ?_, ?_, ?_⟩, ?_, ?_⟩
  · refine .by' (Tot.ix (Φ := fun _ => True) h0 hi fun _ _ _ => trivial) fun x8 _ => .by' (t25 x8 8 (by decide) (by decide)) fun x9 h9 => .by' (Ξ := fun _ => True) (Tot.rem (by decide) trivial) fun x10 _ => ?_
    have hd' : ∀ d ∈ r, DclB (1 + (i.toNat + 1)) d := fun d hdm => ⟨(hd d hdm).tag, by have := (hd d hdm).n; omega, (hd d hdm).syms⟩
    refine Tot.cd (fun _ => .so ⟨by omega, hd'⟩) (fun _ => ?_)
    refine .by' (Ξ := fun c => c = true → 0 < (r.length : Int)) (Tot.cd (fun _ => .so fun h => of_decide_eq_true h) (fun _ => .so fun h => by cases h)) fun c hc => Tot.cd (fun hc2 => ?_) (fun _ => ?_)
    · have hpos := hc hc2
      have hwl : w64 ((r.length : Int) - 1) = (r.length : Int) - 1 := by rw [w64_eq]; omega
      rw [hwl]
      refine .by' (Tot.ix (Φ := fun y => y ∈ r) (by omega) (by omega) fun _ _ h => h) fun d hdm => .by' (t49 i h0) fun x hx => .by' (Ξ := fun _ => True) (Tot.ap (by have := (hd d hdm).n; simp [lim]; omega) trivial) fun _ _ => .so ⟨by simp; omega, fun d' hd2 => ?_⟩
      rcases mem_set2 hd2 with h | rfl
      · exact hd' d' h
      · refine ⟨(hd d hdm).tag, ?_, fun y hy => ?_⟩
        · have := (hd d hdm).n; show (d.Syms ++ [x]).length ≤ _; simp; omega
        · rcases List.mem_append.1 hy with hy | hy
          · exact (hd d hdm).syms y hy
          · rw [List.mem_singleton.1 hy, hx.1]; decide
    · refine .by' (Ξ := fun _ => True) (Tot.rem (by decide) trivial) fun x18 _ => .by' (t49 i h0) fun x hx => .by' (Ξ := fun _ => True) (Tot.ap (by simp [lim]; omega) trivial) fun _ _ => .so ⟨by simp; omega, fun d' hd2 => ?_⟩
      rcases List.mem_append.1 hd2 with h | h
      · exact hd' d' h
      · rw [List.mem_singleton.1 h]
        refine ⟨rfl, by show 1 ≤ _; omega, fun y hy => ?_⟩
        have hy : y ∈ [x] := hy
        rw [List.mem_singleton.1 hy, hx.1]; decide
  · show 0 ≤ i + 1; omega
  · show i + 1 ≤ 4; omega
  · show j.length ≤ (i + 1).toNat; omega
  · intro d hdm
    have e : (i + 1).toNat = i.toNat + 1 := by omega
    show DclB (1 + (i + 1).toNat) d
    rw [e]; exact hj.2 d hdm
  · show i < i + 1; omega
  · show i + 1 ≤ 4; omega
structure RlB (n : Nat) (r : Rule) : Prop where
  left : r.Left.size ≤ big
  n : r.Alts.length ≤ n
  alts : ∀ a ∈ r.Alts, AltB a
theorem RlB.mono {n m : Nat} {r : Rule} (h : RlB n r) (hm : n ≤ m) : RlB m r := ⟨h.left, Nat.le_trans h.n hm, h.alts⟩
theorem RlB.add {n : Nat} {r : Rule} {a : Alt} (h : RlB n r) (ha : AltB a) : RlB (n + 1) (⟨r.Left, r.Alts ++ [a], r.At⟩ : Rule) := by
  refine ⟨h.left, by have := h.n; show (r.Alts ++ [a]).length ≤ _; simp; omega, fun b hb => ?_⟩
  rcases List.mem_append.1 hb with hb | hb
  · exact h.alts b hb
  · rw [List.mem_singleton.1 hb]; exact ha
theorem all_set {l : List Rule} {i n : Nat} {r : Rule} (h : ∀ x ∈ l, RlB n x) (hr : RlB n r) : ∀ x ∈ l.set i r, RlB n x := fun x hx => by
  rcases mem_set2 hx with h' | rfl
  · exact h x h'
  · exact hr
theorem t17 (x : yuccalaw0_Gr) : Tot (pf17 x) SrcB := by
  unfold pf17
  refine .by' (t25 x.Nons 4 (by decide) (by decide)) fun x1 h1 => .by' (t46 x.Levels) fun x2 h2 => ?_
  have hw1 : w64 (1 + x1) = 1 + x1 := by rw [w64_eq]; omega
  rw [hw1]
  refine .by' (Ξ := fun l => l = List.replicate (1 + x1).toNat false) (Tot.mk (by simp [lim]; omega) rfl) fun x3 h3 => ?_
  have h3l : x3.length = (1 + x1).toNat := by rw [h3]; simp
  refine Tot.by' (Ξ := fun l => (l.length : Int) = 1 + x1 ∧ ∀ r ∈ l, RlB 0 r) ?_ fun x5 h5 => ?_
  · refine Tot.count (fun s => s.2) (1 + x1) (fun s => 0 ≤ s.2 ∧ s.2 ≤ 1 + x1 ∧ (s.1.length : Int) = s.2 ∧ ∀ r ∈ s.1, RlB 0 r) ⟨Int.le_refl 0, by show 0 ≤ 1 + x1; omega, rfl, fun d hd => absurd hd (by simp)⟩ (by show 1 + x1 - 0 < _; omega) fun s hs => ?_
    obtain ⟨l, i⟩ := s
    obtain ⟨g0, g1, hl, hP⟩ := hs
    simp only at g0 g1 hl hP ⊢
    have hw : w64 (i + 1) = i + 1 := by rw [w64_eq]; omega
    rw [hw]
    refine Tot.cp (fun hlt => ?_) (fun _ => .so ⟨by omega, hP⟩)
    refine .by' (t47 i) fun x8 h8 => .by' (Ξ := fun _ => True) (Tot.ap (by simp [lim]; omega) trivial) fun _ _ => .so ⟨⟨?_, ?_, ?_, fun r hr => ?_⟩, ?_, ?_⟩
    · show 0 ≤ i + 1; omega
    · show i + 1 ≤ 1 + x1; omega
    · show ((l ++ [_]).length : Int) = i + 1
      simp; omega
    · rcases List.mem_append.1 hr with hr | hr
      · exact hP r hr
      · rw [List.mem_singleton.1 hr]
        exact ⟨by show x8.size ≤ _; rw [h8]; decide, Nat.le_refl 0, fun a ha => absurd ha (by simp)⟩
    · show i < i + 1; omega
    · show i + 1 ≤ 1 + x1; omega
  refine Tot.by' (Ξ := fun r => (r.1.length : Int) = 1 + x1 ∧ (r.2.length : Int) = 1 + x1 ∧ ∀ y ∈ r.1, RlB 9 y) ?_ fun x11 h11 => ?_
  · refine Tot.count (fun s => s.2.2) 9 (fun s => 0 ≤ s.2.2 ∧ s.2.2 ≤ 9 ∧ (s.1.length : Int) = 1 + x1 ∧ (s.2.1.length : Int) = 1 + x1 ∧ ∀ y ∈ s.1, RlB s.2.2.toNat y) ⟨Int.le_refl 0, by show (0:Int) ≤ 9; decide, h5.1, by show (x3.length : Int) = _; omega, h5.2⟩ (by show (9:Int) - 0 < _; decide) fun s hs => ?_
    obtain ⟨l, hb, i⟩ := s
    obtain ⟨g0, g1, hl, hhb, hP⟩ := hs
    simp only at g0 g1 hl hhb hP ⊢
    have hw : w64 (i + 1) = i + 1 := by rw [w64_eq]; omega
    rw [hw]
    refine .by' (Ξ := fun c => c = true → i < x.Rules.length ∧ i < 9) (Tot.cp (fun h => .so fun h2 => ⟨h, of_decide_eq_true h2⟩) (fun _ => .so fun h => by cases h)) fun c hc => Tot.cd (fun hc1 => ?_) (fun _ => .so ⟨hl, hhb, fun y hy => (hP y hy).mono (by omega)⟩)
    obtain ⟨hi, hi9⟩ := hc hc1
    have hlt' : i.toNat < x.Rules.length := by omega
    have hidx : idx x.Rules i = some x.Rules[i.toNat] := by simp [idx, g0, hlt']
    rw [hidx]
    generalize x.Rules[i.toNat] = d
    have hP' : ∀ y ∈ l, RlB (i.toNat + 1) y := fun y hy => (hP y hy).mono (by omega)
    refine Tot.by' (Ξ := fun j => (j.1.length : Int) = 1 + x1 ∧ (j.2.length : Int) = 1 + x1 ∧ ∀ y ∈ j.1, RlB (i.toNat + 1) y) ?_ fun j hj => .so ⟨⟨?_, ?_, hj.1, hj.2.1, ?_⟩, ?_, ?_⟩
    · refine Tot.sm (Tot.cp (fun _ => .so ⟨hl, hhb, hP'⟩) (fun hne => Tot.sm ?_))
      refine .by' (Tot.ix (Φ := fun _ => True) (by decide) (by omega) fun _ _ _ => trivial) fun x20 _ => .by' (t25 x20 (1 + x1) (by omega) (by omega)) fun x21 h21 => ?_
      have bx : ∀ c : ByteArray, c.size ≤ big → ((⟨(⟨{ data := #[] }, false, 0, 0⟩ : Sym), c, 0⟩ : Part).Sym.Name.size ≤ big ∧ (⟨(⟨{ data := #[] }, false, 0, 0⟩ : Sym), c, 0⟩ : Part).Code.size ≤ big) := fun c hc => ⟨by show 0 ≤ _; exact Nat.zero_le _, hc⟩
      refine Tot.by' (Ξ := fun r => r.1.length ≤ 10 ∧ ∀ p ∈ r.1, p.Sym.Name.size ≤ big ∧ p.Code.size ≤ big) ?_ fun x23 h23 => ?_
      · refine Tot.count (fun s => s.2.2) 5 (fun s => 1 ≤ s.2.2 ∧ s.2.2 ≤ 5 ∧ (s.1.length : Int) ≤ 2 * (s.2.2 - 1) ∧ ∀ p ∈ s.1, p.Sym.Name.size ≤ big ∧ p.Code.size ≤ big) ⟨Int.le_refl 1, by decide, by decide, fun p hp => absurd hp (by simp)⟩ (by decide) fun s hs => ?_
        obtain ⟨ps, pl, k⟩ := s
        obtain ⟨k0, k1, kl, kP⟩ := hs
        simp only at k0 k1 kl kP ⊢
        have hwk : w64 (k + 1) = k + 1 := by rw [w64_eq]; omega
        rw [hwk]
        refine .by' (Ξ := fun c => c = true → k < d.length ∧ k < 5) (Tot.sm (Tot.cp (fun h => .so fun h2 => ⟨h, of_decide_eq_true h2⟩) (fun _ => .so fun h => by cases h))) fun c hc => Tot.cd (fun hc1 => ?_) (fun _ => .so ⟨by show ps.length ≤ 10; omega, kP⟩)
        obtain ⟨hk, hk5⟩ := hc hc1
        refine Tot.by' (Ξ := fun j => (j.1.length : Int) ≤ 2 * k ∧ ∀ p ∈ j.1, p.Sym.Name.size ≤ big ∧ p.Code.size ≤ big) ?_ fun j hj => .so ⟨⟨?_, ?_, ?_, hj.2⟩, ?_, ?_⟩
        · refine Tot.sm (.by' (Tot.ix (Φ := fun _ => True) (by omega) hk fun _ _ _ => trivial) fun x31 _ => .by' (t48 x31 (1 + x1) (by omega) (by omega)) fun x32 h32 => ?_)
          refine .by' (Ξ := fun _ => True) (Tot.cd (fun _ => Tot.cd (fun _ => .so trivial) (fun _ => .so trivial)) (fun _ => .so trivial)) fun _ _ => .by' (Ξ := fun _ => True) (Tot.ap (by simp [lim]; omega) trivial) fun _ _ => ?_
          have hq : ∀ p ∈ ps ++ [(⟨x32, { data := #[] }, 0⟩ : Part)], p.Sym.Name.size ≤ big ∧ p.Code.size ≤ big := fun p hp => by
            rcases List.mem_append.1 hp with hp | hp
            · exact kP p hp
            · rw [List.mem_singleton.1 hp]
              exact ⟨by show x32.Name.size ≤ 1000000000000; omega, Nat.zero_le _⟩
          refine .by' (Ξ := fun _ => True) ?_ fun c41 _ => ?_
          · refine Tot.cp (fun h => Tot.cd (fun _ => .by' (Tot.ix (Φ := fun _ => True) g0 h fun _ _ _ => trivial) fun _ _ => .by' (Ξ := fun _ => True) (Tot.rem (by decide) trivial) fun _ _ => .so trivial) (fun _ => .so trivial)) (fun _ => .so trivial)
          · refine Tot.by' (Ξ := fun l => (l.length : Int) ≤ 2 * k ∧ ∀ p ∈ l, p.Sym.Name.size ≤ big ∧ p.Code.size ≤ big) ?_ fun j hj => .so hj
            refine Tot.cd (fun _ => ?_) (fun _ => .so ⟨by simp; omega, hq⟩)
            refine .by' (Ξ := fun _ => True) (Tot.ap (by simp [lim]; omega) trivial) fun _ _ => .so ⟨by simp; omega, fun p hp => ?_⟩
            rcases List.mem_append.1 hp with hp | hp
            · exact hq p hp
            · rw [List.mem_singleton.1 hp]; exact bx _ (by decide)
        · show 1 ≤ k + 1; omega
        · show k + 1 ≤ 5; omega
        · show (j.1.length : Int) ≤ 2 * (k + 1 - 1); omega
        · show k < k + 1; omega
        · show k + 1 ≤ 5; omega
      · refine .by' (Ξ := fun _ => True) (Tot.cp (fun h => .by' (Tot.ix (Φ := fun _ => True) g0 h fun _ _ _ => trivial) fun _ _ => .by' (Ξ := fun _ => True) (Tot.rem (by decide) trivial) fun _ _ => .so trivial) (fun _ => .so trivial)) fun c48 _ => ?_
        refine Tot.by' (Ξ := fun l => l.length ≤ 20 ∧ ∀ p ∈ l, p.Sym.Name.size ≤ big ∧ p.Code.size ≤ big) ?_ fun j49 h49 => ?_
        · refine Tot.cd (fun _ => ?_) (fun _ => .so ⟨by omega, h23.2⟩)
          refine .by' (Ξ := fun _ => True) (Tot.ap (by simp [lim]; omega) trivial) fun _ _ => .so ⟨by simp; omega, fun p hp => ?_⟩
          rcases List.mem_append.1 hp with hp | hp
          · exact h23.2 p hp
          · rw [List.mem_singleton.1 hp]; exact bx _ (by decide)
        · refine Tot.by' (Ξ := fun l => (l.length : Int) = 1 + x1) ?_ fun c54 h54 => ?_
          · refine .by' (Tot.ix (Φ := fun _ => True) h21.1 (by omega) fun _ _ _ => trivial) fun _ _ => Tot.cd (fun _ => .so (by simp; omega)) (fun _ => .so (by simp; omega))
          · refine .by' (Tot.ix (Φ := fun y => y ∈ l) h21.1 (by omega) fun _ _ h => h) fun x55 h55 => ?_
            have hx55 := hP x55 h55
            refine .by' (Ξ := fun _ => True) (Tot.ap (by have := hx55.n; simp [lim]; omega) trivial) fun _ _ => .so ⟨by show ((l.set _ _).length : Int) = _; simp; omega, h54, all_set hP' (hx55.add ⟨by show j49.length ≤ _; omega, h49.2, Nat.zero_le _⟩)⟩
    · show 0 ≤ i + 1; omega
    · show i + 1 ≤ 9; omega
    · intro y hy
      have e : (i + 1).toNat = i.toNat + 1 := by omega
      show RlB (i + 1).toNat y
      rw [e]; exact hj.2.2 y hy
    · show i < i + 1; omega
    · show i + 1 ≤ 9; omega
  refine Tot.by' (Ξ := fun l => (l.length : Int) = 1 + x1 ∧ ∀ y ∈ l, RlB 20 y) ?_ fun x58 h58 => .so ⟨Nat.zero_le _, ?_, fun d hd => ?_, ?_, fun r hr => ?_⟩
  · refine Tot.count (fun s => s.2) (1 + x1) (fun s => 0 ≤ s.2 ∧ s.2 ≤ 1 + x1 ∧ (s.1.length : Int) = 1 + x1 ∧ ∀ y ∈ s.1, RlB (9 + s.2.toNat) y) ⟨Int.le_refl 0, by show 0 ≤ 1 + x1; omega, h11.1, h11.2.2⟩ (by show 1 + x1 - 0 < _; omega) fun s hs => ?_
    obtain ⟨l, i⟩ := s
    obtain ⟨g0, g1, hl, hP⟩ := hs
    simp only at g0 g1 hl hP ⊢
    have hw : w64 (i + 1) = i + 1 := by rw [w64_eq]; omega
    rw [hw]
    refine Tot.cp (fun hlt => ?_) (fun _ => .so ⟨hl, fun y hy => (hP y hy).mono (by omega)⟩)
    refine Tot.by' (Ξ := fun l => (l.length : Int) = 1 + x1 ∧ ∀ y ∈ l, RlB (9 + i.toNat + 1) y) ?_ fun j hj => .so ⟨⟨?_, ?_, hj.1, ?_⟩, ?_, ?_⟩
    · refine .by' (Ξ := fun _ => True) ?_ fun c66 _ => ?_
      · refine .by' (Tot.ix (Φ := fun _ => True) g0 (by omega) fun _ _ _ => trivial) fun x62 _ => Tot.cd (fun _ => .so trivial) (fun _ => .by' (Tot.ix (Φ := fun _ => True) g0 (by omega) fun _ _ _ => trivial) fun _ _ => Tot.cd (fun _ => .so trivial) (fun _ => .so trivial))
      · refine Tot.by' (Ξ := fun l => (l.length : Int) = 1 + x1 ∧ ∀ y ∈ l, RlB (9 + i.toNat + 1) y) ?_ fun j hj => .so hj
        refine Tot.cd (fun _ => ?_) (fun _ => .so ⟨hl, fun y hy => (hP y hy).mono (by omega)⟩)
        refine .by' (Tot.ix (Φ := fun y => y ∈ l) g0 (by omega) fun _ _ h => h) fun x69 h69 => .by' (t49 i g0) fun x70 h70 => ?_
        have hx := hP x69 h69
        refine .by' (Ξ := fun _ => True) (Tot.ap (by have := hx.n; simp [lim]; omega) trivial) fun _ _ => .so ⟨by simp; omega, all_set (fun y hy => (hP y hy).mono (by omega)) (hx.add ⟨by show 1 ≤ _; omega, fun p hp => ?_, Nat.zero_le _⟩)⟩
        have hp : p ∈ [(⟨x70, { data := #[] }, 0⟩ : Part)] := hp
        rw [List.mem_singleton.1 hp]
        exact ⟨by show x70.Name.size ≤ 1000000000000; omega, Nat.zero_le _⟩
    · show 0 ≤ i + 1; omega
    · show i + 1 ≤ 1 + x1; omega
    · intro y hy
      have e : 9 + (i + 1).toNat = 9 + i.toNat + 1 := by omega
      show RlB (9 + (i + 1).toNat) y
      rw [e]; exact hj.2 y hy
    · show i < i + 1; omega
    · show i + 1 ≤ 1 + x1; omega
  · have := h2.1; show x2.length ≤ 1000; omega
  · have := h2.2 d hd
    exact ⟨by rw [this.tag]; exact Nat.zero_le _, by have := this.n; omega, this.syms⟩
  · show x58.length ≤ 1000; omega
  · have := h58.2 r hr
    exact ⟨this.left, by have := this.n; omega, this.alts⟩
end Go.Proofs
namespace Go.Proofs
open Go Go.Own
set_option maxRecDepth 100000
set_option linter.unusedVariables false
def tokS (g : Grammar) (t : Int) : Int × Int := match idx g.Toks t with | some k => (k.Level, k.Assoc) | none => (0, 0)
def levS (g : Grammar) (p : Int) : Int × Int := match idx g.Prods p with | some q => tokS g q.Prec | none => (0, 0)
def decS (l : Int) (k : Int × Int) : Int :=
  if l = 0 ∨ k.1 = 0 then 0 else if l < k.1 ∨ (k.1 = l ∧ k.2 = 2) then 1 else if k.1 < l ∨ k.2 = 1 then 2 else 3
theorem idx_none {α : Type} {l : List α} {i : Int} (h : i < 0 ∨ (l.length : Int) ≤ i) : idx l i = none := by
  unfold idx
  split
  · exact List.getElem?_eq_none (by omega)
  · rfl
theorem idx_some {α : Type} {l : List α} {i : Int} (h0 : 0 ≤ i) (h1 : i < l.length) : ∃ y, idx l i = some y ∧ y ∈ l := by
  have hlt : i.toNat < l.length := by omega
  exact ⟨l[i.toNat], by simp [idx, h0, hlt], List.getElem_mem hlt⟩
theorem e51 (g : Grammar) (t : Int) : pf51 g t = some (tokS g t) := by
  unfold pf51 tokS
  by_cases h0 : t < 0
  · simp [h0, idx_none (Or.inl h0)]
  · by_cases h1 : (g.Toks.length : Int) ≤ t
    · simp [h0, h1, idx_none (Or.inr h1)]
    · obtain ⟨y, hy, _⟩ := idx_some (l := g.Toks) (i := t) (by omega) (by omega)
      simp [h0, h1, hy]
theorem e19 (g : Grammar) (p : Int) : pf19 g p = some (levS g p) := by
  unfold pf19 levS
  by_cases h0 : p < 0
  · simp [h0, idx_none (Or.inl h0)]
  · by_cases h1 : (g.Prods.length : Int) ≤ p
    · simp [h0, h1, idx_none (Or.inr h1)]
    · obtain ⟨y, hy, _⟩ := idx_some (l := g.Prods) (i := p) (by omega) (by omega)
      simp [h0, h1, hy, e51]
theorem e20 (g : Grammar) (hg : GOk g) (p : Int) : pf20 g p = some (levS g p) := by
  unfold pf20 levS
  by_cases h0 : p < 0
  · simp [h0, idx_none (Or.inl h0)]
  · by_cases h1 : (g.Prods.length : Int) ≤ p
    · simp [h0, h1, idx_none (Or.inr h1)]
    · obtain ⟨y, hy, hm⟩ := idx_some (l := g.Prods) (i := p) (by omega) (by omega)
      have hp := (hg.pr y hm).prec
      by_cases h2 : y.Prec < 0
      · simp [h0, h1, hy, h2, tokS, idx_none (Or.inl h2)]
      · obtain ⟨k, hk, _⟩ := idx_some (l := g.Toks) (i := y.Prec) (by omega) (by omega)
        simp [h0, h1, hy, h2, tokS, hk]
theorem e21 (g : Grammar) (p t : Int) : pf21 g p t = some (decS (levS g p).1 (tokS g t)) := by
  unfold pf21
  rw [e19, e51]
  generalize levS g p = a
  generalize tokS g t = k
  obtain ⟨l, x⟩ := a
  obtain ⟨m, s⟩ := k
  simp only [Option.bind_some, decS]
  by_cases h1 : l = 0
  · simp [h1]
  · by_cases h2 : m = 0
    · simp [h2]
    · by_cases h3 : l < m
      · simp [h1, h2, h3]
      · by_cases h4 : m = l
        · by_cases h5 : s = 2
          · simp [h1, h4, h5]
          · by_cases h6 : s = 1
            · simp [h1, h4, h6]
            · simp [h1, h4, h5, h6]
        · have h7 : m < l := by omega
          simp [h1, h2, h3, h4, h7]
theorem e22 (g : Grammar) (hg : GOk g) (p t : Int) : pf22 g p t = some (decS (levS g p).1 (tokS g t)) := by
  unfold pf22
  rw [e20 g hg]
  generalize levS g p = a
  obtain ⟨l, x⟩ := a
  simp only [Option.bind_some, decS]
  by_cases h1 : l = 0
  · simp [h1]
  · by_cases h0 : t < 0
    · simp [h1, h0, tokS, idx_none (Or.inl h0)]
    · by_cases h00 : (g.Toks.length : Int) ≤ t
      · simp [h1, h0, h00, tokS, idx_none (Or.inr h00)]
      · obtain ⟨k, hk, _⟩ := idx_some (l := g.Toks) (i := t) (by omega) (by omega)
        simp only [tokS, hk]
        by_cases h2 : k.Level = 0
        · simp [h1, h0, h00, h2]
        · by_cases h3 : l < k.Level
          · simp [h1, h0, h00, h2, h3]
          · by_cases h4 : k.Level = l
            · by_cases h5 : k.Assoc = 2
              · simp [h1, h0, h00, h4, h5]
              · by_cases h6 : k.Assoc = 1
                · simp [h1, h0, h00, h4, h6]
                · simp [h1, h0, h00, h4, h5, h6]
            · have h7 : k.Level < l := by omega
              simp [h1, h0, h00, h2, h3, h4, h7]
end Go.Proofs
namespace Go.Proofs
open Go Go.Own
set_option maxRecDepth 100000
set_option linter.unusedVariables false
theorem w15 : pf15 = some true := by kernel_rfl
theorem t18 (s : Source) (hb : SrcB s) : Tot (pf18 s) fun r => r.2 = true → GOk r.1 := by
  unfold pf18
  exact .by' (t50 s hb) fun r hr => .so fun h => hr (of_decide_eq_true h)
theorem t3 (s : Source) (x : yuccalaw0_Gr) (p t : Int) : Tot (pf3 s x p t) fun r => r = true := by
  unfold pf3
  rw [w15]
  refine Tot.sm (Tot.cd (fun h => by cases h) (fun _ => ?_))
  refine .by' (t16 s) fun x3 h3 => .by' (t17 x) fun x4 h4 => ?_
  refine Tot.by' (Ξ := LR (fun _ => True) (fun _ => False)) ?_ fun r hr => by
    rcases r with r | r
    · exact .so rfl
    · exact hr.elim
  refine Tot.count (fun i => i) 2 (fun i => 0 ≤ i ∧ i ≤ 2) ⟨by decide, by decide⟩ (by decide) fun i hi => ?_
  refine Tot.cp (fun hlt => ?_) (fun _ => .so trivial)
  have hlt : i < 2 := hlt
  have hw : w64 (i + 1) = i + 1 := by rw [w64_eq]; omega
  rw [hw]
  refine .by' (Tot.ix (Φ := fun y => SrcB y) hi.1 (by show i < 2; exact hlt) fun y _ hy => ?_) fun src hs => ?_
  · rcases List.mem_cons.1 hy with rfl | hy
    · exact h3
    · rw [List.mem_singleton.1 hy]; exact h4
  have nx : Tot (some (Sum.inl (i + 1) : Int ⊕ (Unit ⊕ Bool))) (LR (fun s' => (0 ≤ s' ∧ s' ≤ 2) ∧ i < s' ∧ s' ≤ 2) (LR (fun _ => True) (fun _ => False))) := .so ⟨⟨by omega, by omega⟩, by omega, by omega⟩
  refine .by' (t18 src hs) fun gb hg => Tot.cd (fun _ => nx) (fun hok => ?_)
  have hg : GOk gb.1 := hg (by simpa using hok)
  generalize gb.1 = g at hg ⊢
  refine Tot.by' (Ξ := LR (fun _ => True) (fun _ => False)) ?_ fun r hr => ?_
  · have hpn := hg.pn
    refine Tot.count (fun q => q) (g.Prods.length + 1) (fun q => -1 ≤ q) (by decide) (by show (g.Prods.length : Int) + 1 - (-1) < _; omega) fun q hq => ?_
    refine Tot.cp (fun hlq => ?_) (fun _ => .so trivial)
    have hwq : w64 (q + 1) = q + 1 := by rw [w64_eq]; omega
    rw [hwq, e19, e20 g hg, e21, e22 g hg]
    refine Tot.sm (Tot.sm ?_)
    simp only [decide_true, Bool.not_true, cond_false, Option.bind_some]
    refine Tot.by' (Ξ := LR (fun _ => True) (fun _ => False)) ?_ fun r hr => ?_
    · have htn := hg.tn
      refine Tot.count (fun u => u) (g.Toks.length + 1) (fun u => -1 ≤ u) (by decide) (by show (g.Toks.length : Int) + 1 - (-1) < _; omega) fun u hu => ?_
      refine Tot.cp (fun hlu => ?_) (fun _ => .so trivial)
      have hwu : w64 (u + 1) = u + 1 := by rw [w64_eq]; omega
      rw [hwu, e21, e22 g hg]
      refine Tot.sm (Tot.sm ?_)
      simp only [decide_true, Bool.not_true, cond_false]
      refine .so ⟨?_, ?_, ?_⟩
      · show -1 ≤ u + 1; omega
      · show u < u + 1; omega
      · show u + 1 ≤ (g.Toks.length : Int) + 1; omega
    · rcases r with r | r
      · refine .so ⟨?_, ?_, ?_⟩
        · show -1 ≤ q + 1; omega
        · show q < q + 1; omega
        · show q + 1 ≤ (g.Prods.length : Int) + 1; omega
      · exact hr.elim
  · rcases r with r | r
    · show Tot ((pf19 g p).bind _) _
      rw [e19, e20 g hg, e21, e22 g hg]
      refine Tot.sm (Tot.sm ?_)
      simp only [decide_true, Bool.not_true, cond_false, Option.bind_some]
      exact nx
    · exact hr.elim
end Go.Proofs
namespace Go.Proofs
open Go Go.Own
set_option maxRecDepth 100000
theorem uI : Try.prog.underlying 3 = some (.int .i64) := by kernel_rfl
theorem uB : Try.prog.underlying 4 = some .bool := by kernel_rfl
theorem uS : Try.prog.underlying 9 = some .string := by kernel_rfl
def okI (n : Int) : Prop := (Lit.int .i64 n).wf = true
def okB (_ : Bool) : Prop := True
def okS (s : ByteArray) : Prop := s.size ≤ maxLen
def okL {α : Type} (p : α → Prop) (l : List α) : Prop := l.length ≤ maxLen ∧ ∀ x ∈ l, p x
def okSym (x : Sym) : Prop := okS x.Name ∧ okB x.Lit ∧ okI x.Num ∧ okI x.At ∧ True
def okPart (x : Part) : Prop := okSym x.Sym ∧ okS x.Code ∧ okI x.At ∧ True
def okAlt (x : Alt) : Prop := okL okPart x.Parts ∧ okSym x.Prec ∧ okI x.At ∧ True
def okRule (x : Rule) : Prop := okS x.Left ∧ okL okAlt x.Alts ∧ okI x.At ∧ True
def okDecl (x : Decl) : Prop := okI x.Kind ∧ okS x.Tag ∧ okL okSym x.Syms ∧ okI x.At ∧ True
def okSource (x : Source) : Prop := okS x.Pro ∧ okL okDecl x.Decls ∧ okL okRule x.Rules ∧ okS x.Tail ∧ True
def okGr (x : yuccalaw0_Gr) : Prop := okI x.Nons ∧ okL (okL okI) x.Rules ∧ okL okI x.Levels ∧ okL okI x.Inner ∧ okB x.Bare ∧ True
theorem aI : Ar Try.prog eI 3 okI := .int uI (by kernel_rfl) fun _ => rfl
theorem aB : Ar Try.prog eB 4 okB := .bool uB (by kernel_rfl) fun _ => rfl
theorem aS : Ar Try.prog eS 9 okS := .str uS (by kernel_rfl) fun _ => rfl
theorem u27 : Try.prog.underlying 27 = some (.slice 3) := by kernel_rfl
theorem aLI : Ar Try.prog (eM eI) 27 (okL okI) := aI.slice (t := 27) u27 (by kernel_rfl) (by decide)
theorem aLLI : Ar Try.prog (eM (eM eI)) 26 (okL (okL okI)) := aLI.slice (t := 26) (by kernel_rfl) (by kernel_rfl) (by decide)
theorem aSym : Ar Try.prog eSym 91 okSym := .struct (t := 91) (.cons aS (.cons aB (.cons aI (.cons aI .nil)))) (fun b => (⟨b.1, b.2.1, b.2.2.1, b.2.2.2.1⟩ : Sym)) (fun x => (x.Name, x.Lit, x.Num, x.At, ())) (fun _ => rfl) (fun _ => rfl) (by kernel_rfl) (by kernel_rfl)
theorem aPart : Ar Try.prog ePart 100 okPart := .struct (t := 100) (.cons aSym (.cons aS (.cons aI .nil))) (fun b => (⟨b.1, b.2.1, b.2.2.1⟩ : Part)) (fun x => (x.Sym, x.Code, x.At, ())) (fun _ => rfl) (fun _ => rfl) (by kernel_rfl) (by kernel_rfl)
theorem aParts : Ar Try.prog (eM ePart) 96 (okL okPart) := aPart.slice (by kernel_rfl) (by kernel_rfl) (by decide)
theorem aAlt : Ar Try.prog eAlt_0 98 okAlt := .struct (t := 98) (.cons aParts (.cons aSym (.cons aI .nil))) (fun b => (⟨b.1, b.2.1, b.2.2.1⟩ : Alt)) (fun x => (x.Parts, x.Prec, x.At, ())) (fun _ => rfl) (fun _ => rfl) (by kernel_rfl) (by kernel_rfl)
theorem aAlts : Ar Try.prog (eM eAlt_0) 93 (okL okAlt) := aAlt.slice (by kernel_rfl) (by kernel_rfl) (by decide)
theorem aRule : Ar Try.prog eRule_0 95 okRule := .struct (t := 95) (.cons aS (.cons aAlts (.cons aI .nil))) (fun b => (⟨b.1, b.2.1, b.2.2.1⟩ : Rule)) (fun x => (x.Left, x.Alts, x.At, ())) (fun _ => rfl) (fun _ => rfl) (by kernel_rfl) (by kernel_rfl)
theorem aRules : Ar Try.prog (eM eRule_0) 23 (okL okRule) := aRule.slice (by kernel_rfl) (by kernel_rfl) (by decide)
theorem aSyms : Ar Try.prog (eM eSym) 87 (okL okSym) := aSym.slice (by kernel_rfl) (by kernel_rfl) (by decide)
theorem aDecl : Ar Try.prog eDecl_0 89 okDecl := .struct (t := 89) (.cons aI (.cons aS (.cons aSyms (.cons aI .nil)))) (fun b => (⟨b.1, b.2.1, b.2.2.1, b.2.2.2.1⟩ : Decl)) (fun x => (x.Kind, x.Tag, x.Syms, x.At, ())) (fun _ => rfl) (fun _ => rfl) (by kernel_rfl) (by kernel_rfl)
theorem aDecls : Ar Try.prog (eM eDecl_0) 22 (okL okDecl) := aDecl.slice (by kernel_rfl) (by kernel_rfl) (by decide)
def eSource : En Source := ⟨4, fun x => [SS x.Pro, iR eDecl_0 x.Decls, iR eRule_0 x.Rules, SS x.Tail], fun _ => rfl, fun _ => NRl.nr⟩
theorem sSource : strB Try.prog 25 [9, 22, 23, 9] = true := by kernel_rfl
theorem aSource : Ar Try.prog eSource 25 okSource := .struct (t := 25) (.cons aS (.cons aDecls (.cons aRules (.cons aS .nil)))) (fun b => (⟨b.1, b.2.1, b.2.2.1, b.2.2.2.1⟩ : Source)) (fun x => (x.Pro, x.Decls, x.Rules, x.Tail, ())) (fun _ => rfl) (fun _ => rfl) sSource (by kernel_rfl)
def eGr : En yuccalaw0_Gr := ⟨5, fun x => [I64 x.Nons, iR (eM eI) x.Rules, iR eI x.Levels, iR eI x.Inner, BB x.Bare], fun _ => rfl, fun _ => NRl.nr⟩
theorem sGr : strB Try.prog 29 [3, 26, 27, 27, 4] = true := by kernel_rfl
theorem aGr : Ar Try.prog eGr 29 okGr := .struct (t := 29) (.cons aI (.cons aLLI (.cons aLI (.cons aLI (.cons aB .nil))))) (fun b => (⟨b.1, b.2.1, b.2.2.1, b.2.2.2.1, b.2.2.2.2.1⟩ : yuccalaw0_Gr)) (fun x => (x.Nons, x.Rules, x.Levels, x.Inner, x.Bare, ())) (fun _ => rfl) (fun _ => rfl) sGr (by kernel_rfl)
theorem pLaid : laidOutB Try.prog = true := by kernel_rfl
theorem pMaps : mapsRowed Try.prog = true := by kernel_rfl
theorem pFull : ((List.range Try.prog.types.size).all fun t => match Try.prog.underlying t with | some (.slice e) => decide (0 < Try.prog.cellsOf e) | _ => true) = true := by kernel_rfl
end Go.Proofs
