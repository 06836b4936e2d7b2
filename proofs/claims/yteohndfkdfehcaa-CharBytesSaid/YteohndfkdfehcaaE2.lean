import Derived.Test.YteohndfkdfehcaaE1
namespace Go.Own
open Go

abbrev Gst := Nat → Option AV

def atP (g : Gst) (p : Place) : Option AV :=
  match g p.root with
  | some x => x.at p.path
  | none => none

def valAt (w : World) (T : Array Value) (p : Place) : Option Value :=
  match T[p.root]? with
  | some v => walk w v p.path
  | none => none

def addrOf : Value → Option Addr
  | .slice (some a) _ _ => some a
  | .pointer (some a) => some a
  | _ => none

/-- What a reference stands for. -/
def RefAt (w : World) (T : Array Value) : AV → Value → Prop
  | .ptr p k, v => ∃ u a, valAt w T p = some u ∧ addrOf u = some a ∧ v = .pointer (some ⟨a.block, a.off + k, none⟩)
  | .brw _ p n, v => ∃ a N cap, valAt w T p = some (.slice a N cap) ∧ v = .slice a n cap ∧ n ≤ N
  | .sub z p lo n, v => ∃ a N cap a' cap', valAt w T p = some (.slice a N cap) ∧ v = .slice a' n cap' ∧ n ≤ cap' ∧ lo + n ≤ N ∧ (0 < n → ∃ ad, a = some ad ∧ a' = some ⟨ad.block, ad.off + lo * z, none⟩)
  | .pend _ p n _ _, v => ∃ a cap, valAt w T p = some (.slice a n cap) ∧ v = .slice a n cap
  | _, _ => False

/-- Does it lead to something that the state knows? -/
def RefOk (g : Gst) : AV → Prop
  | .ptr p k => ∃ y, atP g p = some y ∧ (∃ z n cs, (y = .own z n cs ∨ y = .obj cs) ∧ k < cs.length)
  | .brw z p n => (∃ N cs, atP g p = some (.own z N cs) ∧ n ≤ N) ∨ (p.path = [] ∧ ∃ q n0 m new, g p.root = some (.pend z q n0 m new) ∧ n = n0 + m)
  | .sub z p lo n => ∃ N cs, atP g p = some (.own z N cs) ∧ lo + n ≤ N
  | .pend z p n _ _ => (∃ cs, atP g p = some (.own z n cs)) ∨ (p.path = [] ∧ ∃ q n0 m new cs, g p.root = some (.pend z q n0 m new) ∧ n = n0 + m ∧ atP g q = some (.own z n0 cs))
  | _ => False

def RG (w : World) (T : Array Value) (g : Gst) (r : AV) (v : Value) : Prop := RefAt w T r v ∧ RefOk g r

/-- Behind an append: a row that goes on where the row at 'p' ends: in the same block, or in one of its own. -/
structure RPend (w : World) (I : BSet) (ρ : AV → Value → Prop) (z : Nat) (p : Place) (n m : Nat) (new : List AV) (v : Value) (F : BSet) (bv : Value) (e e2 : TypeId) (us news : List Value) : Prop where
  hbv : ρ (.pend z p n 0 []) bv
  hob : w.ownsRow 0 e z bv n us
  hov : w.ownsRow 0 e2 z v (n + m) (us ++ news)
  hl : new.length = news.length
  h1 : ∀ (k : Nat) (u : Value), news[k]? = some u → u.oneCell' = true
  hr : ∀ (k : Nat) (x : AV) (u : Value), new[k]? = some x → news[k]? = some u → R w I ρ x u (fun _ => False)
  hF : ∀ c, F c ↔ v.ownBlock = some c ∧ bv.ownBlock ≠ some c

/-- What stands in a slot: a tree, or what an append has left. -/
inductive RT (w : World) (I : BSet) (ρ : AV → Value → Prop) : AV → Value → BSet → Prop
  | tree {x : AV} {v : Value} {F : BSet} (h : R w I ρ x v F) : RT w I ρ x v F
  | pend {z n m : Nat} {p : Place} {new : List AV} {v bv : Value} {e e2 : TypeId} {us news : List Value} {F : BSet} (h : RPend w I ρ z p n m new v F bv e e2 us news) : RT w I ρ (.pend z p n m new) v F

theorem R.notPend {w : World} {I : BSet} {ρ : AV → Value → Prop} {z n m : Nat} {p : Place} {new : List AV} {v : Value} {F : BSet} (h : R w I ρ (.pend z p n m new) v F) : False := by
  cases h with
  | ref hx => simp [AV.isRef] at hx

theorem RT.isTree {w : World} {I : BSet} {ρ : AV → Value → Prop} {x : AV} {v : Value} {F : BSet} (h : RT w I ρ x v F) (hx : ∀ z p n m new, x ≠ .pend z p n m new) : R w I ρ x v F := by
  cases h with
  | tree h => exact h
  | pend => exact absurd rfl (hx _ _ _ _ _)

theorem RT.isPend {w : World} {I : BSet} {ρ : AV → Value → Prop} {z n m : Nat} {p : Place} {new : List AV} {v : Value} {F : BSet} (h : RT w I ρ (.pend z p n m new) v F) : ∃ bv e e2 us news, RPend w I ρ z p n m new v F bv e e2 us news := by
  cases h with
  | tree h => exact h.notPend.elim
  | pend h => exact ⟨_, _, _, _, _, h⟩

theorem RT.lt {w : World} {I : BSet} {ρ : AV → Value → Prop} {x : AV} {v : Value} {F : BSet} (h : RT w I ρ x v F) : ∀ c, F c → c < w.heap.size := by
  cases h with
  | tree h => exact h.lt
  | pend h => exact fun c hc => (h.hov.lt c ((h.hF c).1 hc).1).2

theorem RT.frame {w w' : World} {I I' : BSet} {ρ ρ' : AV → Value → Prop} {x : AV} {v : Value} {F : BSet} (h : RT w I ρ x v F)
    (hI : ∀ c, I c → w'.heap[c]? = w.heap[c]?) (hII : ∀ c, I c → I' c) (hρ : ∀ x v, ρ x v → ρ' x v)
    (hP : ∀ z p n bv, ρ (.pend z p n 0 []) bv → ∀ c, bv.ownBlock = some c → w'.heap[c]? = w.heap[c]?)
    (hf : ∀ c, F c → w'.heap[c]? = w.heap[c]?) : RT w' I' ρ' x v F := by
  cases h with
  | tree h => exact .tree (h.frame hI hII hρ hf)
  | @pend z n m p new v bv e e2 us news F h =>
    have hb := hP _ _ _ _ h.hbv
    refine .pend ⟨hρ _ _ h.hbv, ownsRow_of_block h.hob hb, ownsRow_of_block h.hov fun c hc => ?_, h.hl, h.h1, fun k x u hx hu => (h.hr k x u hx hu).frame hI hII hρ fun c hc => hc.elim, h.hF⟩
    by_cases hbc : bv.ownBlock = some c
    · exact hb c hbc
    · exact hf c ((h.hF c).2 ⟨hc, hbc⟩)

theorem AV.at_pend {z n m : Nat} {p : Place} {new : List AV} {q : List Nat} {y : AV} (h : (AV.pend z p n m new).at q = some y) : q = [] ∧ y = .pend z p n m new := by
  cases q with
  | nil => simp [AV.at] at h; exact ⟨rfl, h.symm⟩
  | cons k q => simp [AV.at, AV.kids] at h

/-- The abstract state 'g' stands for the slots 'T' and the world 'w'. -/
structure SR (w : World) (I : BSet) (T : Array Value) (g : Gst) (Fs : Nat → BSet) : Prop where
  rel : ∀ t x, g t = some x → ∃ v, T[t]? = some v ∧ RT w I (RG w T g) x v (Fs t)
  non : ∀ t, g t = none → ∀ c, ¬ Fs t c
  dis : ∀ t t' c, Fs t c → Fs t' c → t = t'
  imm : ∀ t c, Fs t c → ¬ I c
  lt : ∀ c, I c → c < w.heap.size
  pok : ∀ t t' z p n m new z' n' m' new', g t = some (.pend z p n m new) → g t' = some (.pend z' p n' m' new') → t = t'

section
variable {w : World} {I : BSet} {T : Array Value} {g : Gst} {Fs : Nat → BSet}

/-- A part that the state knows. -/
theorem SR.part (h : SR w I T g Fs) {p : Place} {y : AV} (hp : atP g p = some y) (hy : ∀ z q n m new, y ≠ .pend z q n m new) : ∃ v Fy, valAt w T p = some v ∧ R w I (RG w T g) y v Fy ∧ (∀ c, Fy c → Fs p.root c) := by
  unfold atP at hp
  cases hx : g p.root with
  | none => rw [hx] at hp; cases hp
  | some x =>
    rw [hx] at hp
    obtain ⟨v, hv, hR⟩ := h.rel _ _ hx
    replace hR := hR.isTree (by
      rintro z q n m new rfl
      exact hy _ _ _ _ _ (AV.at_pend hp).2)
    obtain ⟨vy, Fy, hw, hRy, hFy, _⟩ := R.focus p.path hR hp
    exact ⟨vy, Fy, by simp [valAt, hv, hw], hRy, hFy⟩

theorem R.own_block {ρ : AV → Value → Prop} {z n : Nat} {cs : List AV} {v : Value} {F : BSet} (h : R w I ρ (.own z n cs) v F) : ∀ c, v.ownBlock = some c → F c := by
  cases h with
  | own ho hl h1 hr hd hb hF => exact fun c hc => (hF c).2 (.inl hc)
  | ref hx => simp [AV.isRef] at hx

theorem R.own_slice {ρ : AV → Value → Prop} {z n : Nat} {cs : List AV} {v : Value} {F : BSet} (h : R w I ρ (.own z n cs) v F) :
    ∃ a cap, v = .slice a n cap ∧ n ≤ cap ∧ cs.length = n * z ∧ (∀ ad, a = some ad → ad.off = 0 ∧ ad.spot = none) ∧ (0 < n → a.isSome = true) := by
  cases h with
  | own ho hl h1 hr hd hb hF =>
    obtain ⟨h1, h2⟩ := ho
    rcases h2 with ⟨rfl, rfl⟩ | ⟨b, cap, cur, rfl, _, _, hn, _⟩
    · exact ⟨none, 0, rfl, Nat.le_refl _, by simp [hl, h1], by simp, by simp⟩
    · exact ⟨_, cap, rfl, hn, by simp [hl, h1], by rintro ad ⟨⟩; exact ⟨rfl, rfl⟩, by simp⟩
  | ref hx => simp [AV.isRef] at hx

/-- The way to a known part is as it was, where the blocks are. -/
theorem SR.valAt_same (h : SR w I T g Fs) {w' : World} {T' : Array Value} (hT : ∀ t, g t ≠ none → T'[t]? = T[t]?) (hF : ∀ t c, Fs t c → w'.heap[c]? = w.heap[c]?) {p : Place} {y : AV} (hp : atP g p = some y) :
    valAt w' T' p = valAt w T p := by
  unfold atP at hp
  cases hx : g p.root with
  | none => rw [hx] at hp; cases hp
  | some x =>
    rw [hx] at hp
    obtain ⟨v, hv, hR⟩ := h.rel _ _ hx
    have hv' : T'[p.root]? = some v := by rw [hT _ (by rw [hx]; simp), hv]
    cases hR with
    | tree hR =>
      have := R.walk_frame (w' := w') p.path hR hp fun c hc => hF _ c hc
      simp [valAt, hv, hv', this]
    | pend hR => simp [valAt, hv, hv', (AV.at_pend hp).1, walk]

theorem atP_mono {g g' : Gst} (hg : ∀ t x, g t = some x → g' t = some x) {p : Place} {y : AV} (hp : atP g p = some y) : atP g' p = some y := by
  unfold atP at *
  cases hx : g p.root with
  | none => rw [hx] at hp; cases hp
  | some x => rw [hx] at hp; rw [hg _ _ hx]; exact hp

theorem RefOk.mono {g g' : Gst} (hg : ∀ t x, g t = some x → g' t = some x) {r : AV} (h : RefOk g r) : RefOk g' r := by
  cases r <;> simp only [RefOk] at h ⊢
  case ptr p k => obtain ⟨y, hy, h⟩ := h; exact ⟨y, atP_mono hg hy, h⟩
  case brw z p n =>
    rcases h with ⟨N, cs, h1, h2⟩ | ⟨h0, q, n0, m, new, h1, h2⟩
    · exact .inl ⟨N, cs, atP_mono hg h1, h2⟩
    · exact .inr ⟨h0, q, n0, m, new, hg _ _ h1, h2⟩
  case sub z p lo n => obtain ⟨N, cs, h1, h2⟩ := h; exact ⟨N, cs, atP_mono hg h1, h2⟩
  case pend z p n m new =>
    rcases h with ⟨cs, h1⟩ | ⟨h0, q, n0, m', new', cs, h1, h2, h3⟩
    · exact .inl ⟨cs, atP_mono hg h1⟩
    · exact .inr ⟨h0, q, n0, m', new', cs, hg _ _ h1, h2, atP_mono hg h3⟩

/-- What a sound reference leads to is known: it is there in every world that has the state's blocks as they were. -/
theorem SR.ref_same (h : SR w I T g Fs) {w' : World} {T' : Array Value} {g' : Gst} (hT : ∀ t, g t ≠ none → T'[t]? = T[t]?) (hF : ∀ t c, Fs t c → w'.heap[c]? = w.heap[c]?)
    (hg : ∀ t x, g t = some x → g' t = some x) {r : AV} {v : Value} (hr : RG w T g r v) : RG w' T' g' r v := by
  obtain ⟨h1, h2⟩ := hr
  refine ⟨?_, h2.mono hg⟩
  have slot : ∀ {p : Place} {x : AV}, p.path = [] → g p.root = some x → valAt w' T' p = valAt w T p := by
    intro p x hp hx
    obtain ⟨v, hv, _⟩ := h.rel _ _ hx
    simp [valAt, hp, walk, hT p.root (by rw [hx]; simp)]
  cases r <;> simp only [RefAt, RefOk] at h1 h2 ⊢
  case ptr p k =>
    obtain ⟨y, hy, _⟩ := h2
    rw [h.valAt_same hT hF hy]; exact h1
  case brw z p n =>
    rcases h2 with ⟨N, cs, h2, _⟩ | ⟨h0, q, n0, m, new, h2, _⟩
    · rw [h.valAt_same hT hF h2]; exact h1
    · rw [slot h0 h2]; exact h1
  case sub z p lo n =>
    obtain ⟨N, cs, h2, _⟩ := h2
    rw [h.valAt_same hT hF h2]; exact h1
  case pend z p n m new =>
    rcases h2 with ⟨cs, h2⟩ | ⟨h0, q, n0, m', new', cs, h2, _⟩
    · rw [h.valAt_same hT hF h2]; exact h1
    · rw [slot h0 h2]; exact h1

/-- The block behind the base of an append is one of the state's. -/
theorem SR.base_block (h : SR w I T g Fs) {z n : Nat} {p : Place} {bv : Value} (hr : RG w T g (.pend z p n 0 []) bv) : ∀ c, bv.ownBlock = some c → ∃ t, Fs t c := by
  obtain ⟨⟨a, cap, h1, rfl⟩, h2⟩ := hr
  intro c hc
  have own : ∀ {q : Place} {n0 : Nat} {cs : List AV} {v : Value}, atP g q = some (.own z n0 cs) → valAt w T q = some v → v.ownBlock = some c → ∃ t, Fs t c := by
    intro q n0 cs v hq hv hc
    obtain ⟨v', Fy, hv', hR, hFy⟩ := h.part hq (by simp)
    rw [hv] at hv'
    cases hv'
    exact ⟨_, hFy c (hR.own_block c hc)⟩
  rcases h2 with ⟨cs, h2⟩ | ⟨h0, q, n0, m, new, cs, h2, rfl, h3⟩
  · exact own h2 h1 hc
  · obtain ⟨v, hv, hR⟩ := h.rel _ _ h2
    have hvv : v = .slice a (n0 + m) cap := by
      simp only [valAt, hv, h0, walk, Option.some.injEq] at h1
      exact h1
    obtain ⟨bv2, e, e2, us, news, hR⟩ := hR.isPend
    by_cases hb2 : bv2.ownBlock = some c
    · obtain ⟨⟨a2, cap2, h4, rfl⟩, _⟩ := hR.hbv
      exact own h3 h4 hb2
    · exact ⟨_, (hR.hF c).2 ⟨by rw [hvv]; exact hc, hb2⟩⟩

/-- The whole state in a world that has all its blocks as they were. -/
theorem SR.frame (h : SR w I T g Fs) {w' : World} {I' : BSet} {T' : Array Value} {g' : Gst} (hT : ∀ t, g t ≠ none → T'[t]? = T[t]?) (hF : ∀ t c, Fs t c → w'.heap[c]? = w.heap[c]?)
    (hI : ∀ c, I c → w'.heap[c]? = w.heap[c]?) (hII : ∀ c, I c → I' c) (hg : ∀ t x, g t = some x → g' t = some x) {x : AV} {v : Value} {F : BSet} (hR : R w I (RG w T g) x v F)
    (hFF : ∀ c, F c → w'.heap[c]? = w.heap[c]?) : R w' I' (RG w' T' g') x v F :=
  hR.frame hI hII (fun _ _ hr => h.ref_same hT hF hg hr) hFF

theorem SR.frameT (h : SR w I T g Fs) {w' : World} {I' : BSet} {T' : Array Value} {g' : Gst} (hT : ∀ t, g t ≠ none → T'[t]? = T[t]?) (hF : ∀ t c, Fs t c → w'.heap[c]? = w.heap[c]?)
    (hI : ∀ c, I c → w'.heap[c]? = w.heap[c]?) (hII : ∀ c, I c → I' c) (hg : ∀ t x, g t = some x → g' t = some x) {x : AV} {v : Value} {F : BSet} (hR : RT w I (RG w T g) x v F)
    (hFF : ∀ c, F c → w'.heap[c]? = w.heap[c]?) : RT w' I' (RG w' T' g') x v F :=
  hR.frame hI hII (fun _ _ hr => h.ref_same hT hF hg hr) (fun _ _ _ _ hr c hc => by obtain ⟨t, ht⟩ := h.base_block hr c hc; exact hF t c ht) hFF

def upd (g : Gst) (d : Nat) (x : AV) : Gst := fun t => if t = d then some x else g t
def updF (Fs : Nat → BSet) (d : Nat) (F : BSet) : Nat → BSet := fun t => if t = d then F else Fs t

theorem upd_mono {d : Nat} {x : AV} (hd : g d = none) : ∀ t y, g t = some y → upd g d x t = some y := by
  intro t y hy
  unfold upd
  split
  · rename_i h; subst h; rw [hd] at hy; cases hy
  · exact hy

end
end Go.Own
