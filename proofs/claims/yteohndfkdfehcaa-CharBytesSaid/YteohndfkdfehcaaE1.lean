import Derived.WalkKit
import Derived.Orders
namespace Go.Own
open Go

/-- A place: a slot, and the way from its value down to a part. -/
structure Place where
  root : Nat
  path : List Nat
  deriving DecidableEq, Repr

def Place.push (p : Place) (k : Nat) : Place := ⟨p.root, p.path ++ [k]⟩

/-- Abstract values. -/
inductive AV where
  | lit (v : Value)
  | nils
  | imm (z n : Nat) (cs : List AV)
  | own (z n : Nat) (cs : List AV)
  | obj (cs : List AV)
  | agg (cs : List AV)
  | tup (cs : List AV)
  | iptr (cs : List AV)
  | ptr (p : Place) (k : Nat)
  | brw (z : Nat) (p : Place) (n : Nat)
  | sub (z : Nat) (p : Place) (lo n : Nat)
  | pend (z : Nat) (p : Place) (n m : Nat) (new : List AV)
  | clo (fn : Fn) (first caps : List AV)
  | dead
  deriving Inhabited

abbrev BSet := Nat → Prop

def AV.isRef : AV → Bool
  | .ptr .. | .brw .. | .sub .. => true
  | _ => false

/-- The abstract value 'x' stands for the value 'v'; 'F': the blocks that it owns. 'I': the blocks that never change. 'ρ': what a reference stands for. -/
inductive R (w : World) (I : BSet) (ρ : AV → Value → Prop) : AV → Value → BSet → Prop
  | lit {v : Value} {F : BSet} (hv : v.oneCell' = true) (hF : ∀ c, ¬ F c) : R w I ρ (.lit v) v F
  | nils {F : BSet} (hF : ∀ c, ¬ F c) : R w I ρ .nils (.slice none 0 0) F
  | dead {v : Value} {F : BSet} (hF : ∀ c, ¬ F c) : R w I ρ .dead v F
  | ref {x : AV} {v : Value} {F : BSet} (hx : x.isRef = true) (h : ρ x v) (hF : ∀ c, ¬ F c) : R w I ρ x v F
  | imm0 {z cap : Nat} {a : Option Addr} {F : BSet} (hF : ∀ c, ¬ F c) : R w I ρ (.imm z 0 []) (.slice a 0 cap) F
  | imm {z n cap : Nat} {cs : List AV} {ad : Addr} {us : Nat → Value} {F : BSet} (hF : ∀ c, ¬ F c) (hcap : n ≤ cap) (hI : I ad.block) (hs : ad.spot = none) (hl : cs.length = n * z) (h1 : ∀ (k : Nat) (x : AV), cs[k]? = some x → (us k).oneCell' = true)
      (hc : ∀ (k : Nat) (x : AV), cs[k]? = some x → w.cell? ⟨ad.block, ad.off + k, none⟩ = some (us k)) (hr : ∀ (k : Nat) (x : AV), cs[k]? = some x → R w I ρ x (us k) (fun _ => False)) :
      R w I ρ (.imm z n cs) (.slice (some ad) n cap) F
  | iptr {cs : List AV} {ad : Addr} {us : Nat → Value} {F : BSet} (hF : ∀ c, ¬ F c) (hI : I ad.block) (hs : ad.spot = none) (h1 : ∀ (k : Nat) (x : AV), cs[k]? = some x → (us k).oneCell' = true)
      (hc : ∀ (k : Nat) (x : AV), cs[k]? = some x → w.cell? ⟨ad.block, ad.off + k, none⟩ = some (us k)) (hr : ∀ (k : Nat) (x : AV), cs[k]? = some x → R w I ρ x (us k) (fun _ => False)) :
      R w I ρ (.iptr cs) (.pointer (some ad)) F
  | own {z n : Nat} {cs : List AV} {v : Value} {e : TypeId} {us : List Value} {Fs : Nat → BSet} {F : BSet}
      (ho : w.ownsRow 0 e z v n us) (hl : cs.length = us.length) (h1 : ∀ (k : Nat) (u : Value), us[k]? = some u → u.oneCell' = true)
      (hr : ∀ (k : Nat) (x : AV) (u : Value), cs[k]? = some x → us[k]? = some u → R w I ρ x u (Fs k))
      (hd : ∀ (j k c : Nat), j < cs.length → k < cs.length → Fs j c → Fs k c → j = k) (hb : ∀ (k c : Nat), k < cs.length → Fs k c → v.ownBlock ≠ some c)
      (hF : ∀ c, F c ↔ v.ownBlock = some c ∨ ∃ k, k < cs.length ∧ Fs k c) : R w I ρ (.own z n cs) v F
  | obj {cs : List AV} {b : Nat} {e : TypeId} {arr : Array Value} {Fs : Nat → BSet} {F : BSet}
      (ho : w.heap[b]? = some (.cells arr e (0, 0))) (hl : cs.length = arr.size) (h1 : ∀ (k : Nat) (u : Value), arr[k]? = some u → u.oneCell' = true)
      (hr : ∀ (k : Nat) (x : AV) (u : Value), cs[k]? = some x → arr[k]? = some u → R w I ρ x u (Fs k))
      (hd : ∀ (j k c : Nat), j < cs.length → k < cs.length → Fs j c → Fs k c → j = k) (hb : ∀ (k : Nat), k < cs.length → ¬ Fs k b)
      (hF : ∀ c, F c ↔ c = b ∨ ∃ k, k < cs.length ∧ Fs k c) : R w I ρ (.obj cs) (.pointer (some ⟨b, 0, none⟩)) F
  | agg {cs : List AV} {vs : Array Value} {Fs : Nat → BSet} {F : BSet} (hl : cs.length = vs.size) (h1 : ∀ (k : Nat) (u : Value), vs[k]? = some u → u.oneCell' = true)
      (hr : ∀ (k : Nat) (x : AV) (u : Value), cs[k]? = some x → vs[k]? = some u → R w I ρ x u (Fs k))
      (hd : ∀ (j k c : Nat), j < cs.length → k < cs.length → Fs j c → Fs k c → j = k)
      (hF : ∀ c, F c ↔ ∃ k, k < cs.length ∧ Fs k c) : R w I ρ (.agg cs) (.agg vs) F
  | tup {cs : List AV} {vs : Array Value} {Fs : Nat → BSet} {F : BSet} (hl : cs.length = vs.size)
      (hr : ∀ (k : Nat) (x : AV) (u : Value), cs[k]? = some x → vs[k]? = some u → R w I ρ x u (Fs k))
      (hd : ∀ (j k c : Nat), j < cs.length → k < cs.length → Fs j c → Fs k c → j = k)
      (hF : ∀ c, F c ↔ ∃ k, k < cs.length ∧ Fs k c) : R w I ρ (.tup cs) (.tuple vs) F
  | clo {fn : Fn} {first caps : List AV} {v1 v2 : Array Value} {F : BSet} (hF : ∀ c, ¬ F c) (h1 : first.length = v1.size) (h2 : caps.length = v2.size)
      (hr1 : ∀ (k : Nat) (x : AV) (u : Value), first[k]? = some x → v1[k]? = some u → R w I ρ x u (fun _ => False))
      (hr2 : ∀ (k : Nat) (x : AV) (u : Value), caps[k]? = some x → v2[k]? = some u → R w I ρ x u (fun _ => False)) : R w I ρ (.clo fn first caps) (.func fn v1 v2) F

/-- The set of blocks may be said in other words. -/
theorem R.congrF {w : World} {I : BSet} {ρ : AV → Value → Prop} {x : AV} {v : Value} {F F' : BSet} (h : R w I ρ x v F) (hF : ∀ c, F c ↔ F' c) : R w I ρ x v F' := by
  have : F = F' := funext fun c => propext (hF c)
  exact this ▸ h

/-- Blocks that R knows are there. -/
theorem R.lt {w : World} {I : BSet} {ρ : AV → Value → Prop} {x : AV} {v : Value} {F : BSet} (h : R w I ρ x v F) : ∀ c, F c → c < w.heap.size := by
  induction h with
  | lit _ hF | nils hF | dead hF | ref _ _ hF | imm0 hF | imm hF | iptr hF | clo hF => exact fun c hc => absurd hc (hF c)
  | own ho hl h1 hr hd hb hF ih =>
    intro c hc
    rcases (hF c).1 hc with h | ⟨k, hk, h⟩
    · exact (ho.lt c h).2
    · exact ih k _ _ (List.getElem?_eq_getElem hk) (List.getElem?_eq_getElem (hl ▸ hk)) c h
  | obj ho hl h1 hr hd hb hF ih =>
    intro c hc
    rcases (hF c).1 hc with rfl | ⟨k, hk, h⟩
    · exact (Array.getElem?_eq_some_iff.1 ho).1
    · exact ih k _ _ (List.getElem?_eq_getElem hk) (Array.getElem?_eq_getElem (hl ▸ hk)) c h
  | agg hl h1 hr hd hF ih =>
    intro c hc
    obtain ⟨k, hk, h⟩ := (hF c).1 hc
    exact ih k _ _ (List.getElem?_eq_getElem hk) (Array.getElem?_eq_getElem (hl ▸ hk)) c h
  | tup hl hr hd hF ih =>
    intro c hc
    obtain ⟨k, hk, h⟩ := (hF c).1 hc
    exact ih k _ _ (List.getElem?_eq_getElem hk) (Array.getElem?_eq_getElem (hl ▸ hk)) c h

theorem ownsRow_of_block {w w' : World} {e : TypeId} {z n : Nat} {v : Value} {us : List Value} (h : w.ownsRow 0 e z v n us) (hb : ∀ c, v.ownBlock = some c → w'.heap[c]? = w.heap[c]?) : w'.ownsRow 0 e z v n us := by
  obtain ⟨h1, h2⟩ := h
  refine ⟨h1, ?_⟩
  rcases h2 with h2 | ⟨g, cap, cur, rfl, hg, hh, rest⟩
  · exact .inl h2
  · exact .inr ⟨g, cap, cur, rfl, hg, by rw [hb g rfl]; exact hh, rest⟩

/-- Where the blocks of 'I' and of 'F' are as they were, and references stand for what they stood for, all stands. -/
theorem R.frame {w w' : World} {I I' : BSet} {ρ ρ' : AV → Value → Prop} {x : AV} {v : Value} {F : BSet} (h : R w I ρ x v F)
    (hI : ∀ c, I c → w'.heap[c]? = w.heap[c]?) (hII : ∀ c, I c → I' c) (hρ : ∀ x v, ρ x v → ρ' x v) :
    (∀ c, F c → w'.heap[c]? = w.heap[c]?) → R w' I' ρ' x v F := by
  induction h with
  | lit hv hF => exact fun _ => .lit hv hF
  | nils hF => exact fun _ => .nils hF
  | dead hF => exact fun _ => .dead hF
  | ref hx h hF => exact fun _ => .ref hx (hρ _ _ h) hF
  | imm0 hF => exact fun _ => .imm0 hF
  | imm hF hcap hi hs hl h1 hc hr ih =>
    exact fun _ => .imm hF hcap (hII _ hi) hs hl h1 (fun k x hk => (World.cell?_of_block (a := ⟨_, _, none⟩) (hI _ hi)).trans (hc k x hk)) fun k x hk => ih k x hk (fun c hc => hc.elim)
  | iptr hF hi hs h1 hc hr ih =>
    exact fun _ => .iptr hF (hII _ hi) hs h1 (fun k x hk => (World.cell?_of_block (a := ⟨_, _, none⟩) (hI _ hi)).trans (hc k x hk)) fun k x hk => ih k x hk (fun c hc => hc.elim)
  | own ho hl h1 hr hd hb hF ih =>
    intro hf
    refine .own (ownsRow_of_block ho fun c hc => hf c ((hF c).2 (.inl hc))) hl h1 (fun k x u hx hu => ih k x u hx hu fun c hc => hf c ((hF c).2 (.inr ⟨k, ?_, hc⟩))) hd hb hF
    exact (List.getElem?_eq_some_iff.1 hx).1
  | obj ho hl h1 hr hd hb hF ih =>
    intro hf
    refine .obj ((hf _ ((hF _).2 (.inl rfl))).trans ho) hl h1 (fun k x u hx hu => ih k x u hx hu fun c hc => hf c ((hF c).2 (.inr ⟨k, ?_, hc⟩))) hd hb hF
    exact (List.getElem?_eq_some_iff.1 hx).1
  | agg hl h1 hr hd hF ih =>
    intro hf
    refine .agg hl h1 (fun k x u hx hu => ih k x u hx hu fun c hc => hf c ((hF c).2 ⟨k, ?_, hc⟩)) hd hF
    exact (List.getElem?_eq_some_iff.1 hx).1
  | tup hl hr hd hF ih =>
    intro hf
    refine .tup hl (fun k x u hx hu => ih k x u hx hu fun c hc => hf c ((hF c).2 ⟨k, ?_, hc⟩)) hd hF
    exact (List.getElem?_eq_some_iff.1 hx).1
  | clo hF h1 h2 hr1 hr2 ih1 ih2 => exact fun _ => .clo hF h1 h2 (fun k x u hx hu => ih1 k x u hx hu fun c hc => hc.elim) (fun k x u hx hu => ih2 k x u hx hu fun c hc => hc.elim)


/-! ### Parts of a value -/
def AV.kids : AV → List AV
  | .own _ _ cs => cs
  | .obj cs => cs
  | .agg cs => cs
  | .tup cs => cs
  | _ => []

def AV.setKid (x : AV) (k : Nat) (y : AV) : AV :=
  match x with
  | .own z n cs => .own z n (cs.set k y)
  | .obj cs => .obj (cs.set k y)
  | .agg cs => .agg (cs.set k y)
  | .tup cs => .tup (cs.set k y)
  | x => x

def AV.at : AV → List Nat → Option AV
  | x, [] => some x
  | x, k :: p =>
    match x.kids[k]? with
    | some c => c.at p
    | none => none

def AV.setAt : AV → List Nat → AV → AV
  | _, [], y => y
  | x, k :: p, y =>
    match x.kids[k]? with
    | some c => x.setKid k (c.setAt p y)
    | none => x

def child (w : World) (v : Value) (k : Nat) : Option Value :=
  match v with
  | .agg cs => cs[k]?
  | .tuple cs => cs[k]?
  | .slice (some a) _ _ => w.cell? ⟨a.block, a.off + k, none⟩
  | .pointer (some a) => w.cell? ⟨a.block, a.off + k, none⟩
  | _ => none

def walk (w : World) : Value → List Nat → Option Value
  | v, [] => some v
  | v, k :: p =>
    match child w v k with
    | some u => walk w u p
    | none => none

theorem ownsRow_child {w : World} {e : TypeId} {z n : Nat} {v : Value} {us : List Value} (h : w.ownsRow 0 e z v n us) {k : Nat} {u : Value} (hu : us[k]? = some u) : child w v k = some u := by
  obtain ⟨h1, h2⟩ := h
  rcases h2 with ⟨rfl, rfl⟩ | ⟨g, cap, cur, rfl, hg, hh, hn, hc, hs, ht⟩
  · simp at h1; subst h1; simp at hu
  · rw [← ht] at hu
    rw [List.getElem?_take] at hu
    split at hu
    · simpa [child, World.cell?, hh] using hu
    · cases hu

theorem set_getElem? {α : Type} {l : List α} {k j : Nat} {y x : α} (h : (l.set k y)[j]? = some x) : (j = k ∧ x = y ∧ k < l.length) ∨ (j ≠ k ∧ l[j]? = some x) := by
  by_cases hjk : j = k
  · subst hjk
    by_cases hlt : j < l.length
    · rw [List.getElem?_set_self hlt] at h; exact .inl ⟨rfl, (Option.some.inj h).symm, hlt⟩
    · rw [List.set_eq_of_length_le (by omega)] at h; rw [List.getElem?_eq_none (by omega)] at h; cases h
  · rw [List.getElem?_set_ne (Ne.symm hjk)] at h; exact .inr ⟨hjk, h⟩

/-- What may be said of a changed world so that what is outside 'Fy' is as it was. -/
structure Out (w w' : World) (I I' : BSet) (ρ ρ' : AV → Value → Prop) (F Fy : BSet) : Prop where
  imm : ∀ c, I c → w'.heap[c]? = w.heap[c]?
  rest : ∀ c, F c → ¬ Fy c → w'.heap[c]? = w.heap[c]?
  more : ∀ c, I c → I' c
  ref : ∀ x v, ρ x v → ρ' x v

theorem Out.mono {w w' : World} {I I' : BSet} {ρ ρ' : AV → Value → Prop} {F Fy F' Fy' : BSet} (h : Out w w' I I' ρ ρ' F Fy) (h1 : ∀ c, F' c → F c) (h2 : ∀ c, F' c → ¬ Fy' c → ¬ Fy c) : Out w w' I I' ρ ρ' F' Fy' :=
  ⟨h.imm, fun c hc hn => h.rest c (h1 c hc) (h2 c hc hn), h.more, h.ref⟩

theorem R.outside {w w' : World} {I I' : BSet} {ρ ρ' : AV → Value → Prop} {F Fy : BSet} (o : Out w w' I I' ρ ρ' F Fy) {x : AV} {v : Value} {G : BSet} (h : R w I ρ x v G) (hG : ∀ c, G c → F c ∧ ¬ Fy c) : R w' I' ρ' x v G :=
  h.frame o.imm o.more o.ref fun c hc => o.rest c (hG c hc).1 (hG c hc).2

/-- The common step of the focus: of a list of parts one is replaced. -/
theorem kids_set {w w' : World} {I I' : BSet} {ρ ρ' : AV → Value → Prop} {cs : List AV} {get : Nat → Option Value} {Fs : Nat → BSet} {F Fy : BSet}
    (hr : ∀ (k : Nat) (x : AV) (u : Value), cs[k]? = some x → get k = some u → R w I ρ x u (Fs k))
    (hd : ∀ (j k c : Nat), j < cs.length → k < cs.length → Fs j c → Fs k c → j = k)
    (hF : ∀ k c, k < cs.length → Fs k c → F c) {k : Nat} (hk : k < cs.length) (hy : ∀ c, Fy c → Fs k c) (o : Out w w' I I' ρ ρ' F Fy)
    {y : AV} {u : Value} {Fk : BSet} (hu : get k = some u) (hR : R w' I' ρ' y u Fk) (hFk : ∀ c, Fk c ↔ (Fs k c ∧ ¬ Fy c) ∨ (Fk c ∧ ¬ (F c ∧ ¬ Fy c))) :
    (∀ (j : Nat) (x : AV) (u : Value), (cs.set k y)[j]? = some x → get j = some u → R w' I' ρ' x u (if j = k then Fk else Fs j)) ∧
    (∀ (i j c : Nat), i < (cs.set k y).length → j < (cs.set k y).length → (if i = k then Fk else Fs i) c → (if j = k then Fk else Fs j) c → i = j) := by
  constructor
  · intro j x u' hx hu'
    rcases set_getElem? hx with ⟨rfl, rfl, hlt⟩ | ⟨hne, hx⟩
    · rw [if_pos rfl]; rw [hu] at hu'; cases hu'; exact hR
    · rw [if_neg hne]
      have hj : j < cs.length := (List.getElem?_eq_some_iff.1 hx).1
      exact (hr j x u' hx hu').outside o fun c hc => ⟨hF j c hj hc, fun hyc => hne (hd j k c hj hk hc (hy c hyc))⟩
  · intro i j c hi hj h1 h2
    rw [List.length_set] at hi hj
    by_cases hik : i = k <;> by_cases hjk : j = k
    · exact hik.trans hjk.symm
    · rw [if_pos hik] at h1; rw [if_neg hjk] at h2
      exfalso
      have hyc : ¬ Fy c := fun h => hjk (hd j k c hj hk h2 (hy c h))
      rcases (hFk c).1 h1 with ⟨h, _⟩ | ⟨_, h⟩
      · exact hjk (hd j k c hj hk h2 h)
      · exact h ⟨hF j c hj h2, hyc⟩
    · rw [if_neg hik] at h1; rw [if_pos hjk] at h2
      exfalso
      have hyc : ¬ Fy c := fun h => hik (hd i k c hi hk h1 (hy c h))
      rcases (hFk c).1 h2 with ⟨h, _⟩ | ⟨_, h⟩
      · exact hik (hd i k c hi hk h1 h)
      · exact h ⟨hF i c hi h1, hyc⟩
    · rw [if_neg hik] at h1; rw [if_neg hjk] at h2
      exact hd i j c hi hj h1 h2

/-- The set of the parts' blocks behind a replacement. -/
theorem kids_union {m : Nat} {Fs : Nat → BSet} {Fk Fy Fy' : BSet} {k : Nat} (hk : k < m)
    (hd : ∀ (j k c : Nat), j < m → k < m → Fs j c → Fs k c → j = k) (hy : ∀ c, Fy c → Fs k c) (hFk : ∀ c, Fk c ↔ (Fs k c ∧ ¬ Fy c) ∨ Fy' c) (c : Nat) :
    (∃ j, j < m ∧ (if j = k then Fk else Fs j) c) ↔ ((∃ j, j < m ∧ Fs j c) ∧ ¬ Fy c) ∨ Fy' c := by
  constructor
  · rintro ⟨j, hj, h⟩
    by_cases hjk : j = k
    · rw [if_pos hjk] at h
      rcases (hFk c).1 h with ⟨h1, h2⟩ | h1
      · exact .inl ⟨⟨k, hk, h1⟩, h2⟩
      · exact .inr h1
    · rw [if_neg hjk] at h
      exact .inl ⟨⟨j, hj, h⟩, fun hyc => hjk (hd j k c hj hk h (hy c hyc))⟩
  · rintro (⟨⟨j, hj, h⟩, hn⟩ | h)
    · by_cases hjk : j = k
      · subst hjk; exact ⟨j, hj, by rw [if_pos rfl]; exact (hFk c).2 (.inl ⟨h, hn⟩)⟩
      · exact ⟨j, hj, by rw [if_neg hjk]; exact h⟩
    · exact ⟨k, hk, by rw [if_pos rfl]; exact (hFk c).2 (.inr h)⟩

/-- A way down reads the blocks of 'F' alone. -/
theorem R.walk_frame {w w' : World} {I : BSet} {ρ : AV → Value → Prop} : ∀ (r : List Nat) {x : AV} {v : Value} {F : BSet} {y : AV}, R w I ρ x v F → x.at r = some y →
    (∀ c, F c → w'.heap[c]? = w.heap[c]?) → walk w' v r = walk w v r
  | [], _, _, _, _, _, _, _ => rfl
  | k :: p, x, v, F, y, h, hat, hf => by
    simp only [AV.at] at hat
    cases hkid : x.kids[k]? with
    | none => rw [hkid] at hat; cases hat
    | some cx =>
      rw [hkid] at hat
      simp only at hat
      cases h with
      | @own z n cs _ e us Fs _ ho hl h1 hr hd hb hF =>
        simp only [AV.kids] at hkid
        have hk : k < cs.length := (List.getElem?_eq_some_iff.1 hkid).1
        have hu : us[k]? = some us[k] := List.getElem?_eq_getElem (hl ▸ hk)
        have ho' := ownsRow_of_block (w' := w') ho fun c hc => hf c ((hF c).2 (.inl hc))
        have := R.walk_frame (w' := w') p (hr k cx _ hkid hu) hat fun c hc => hf c ((hF c).2 (.inr ⟨k, hk, hc⟩))
        simp [walk, ownsRow_child ho hu, ownsRow_child ho' hu, this]
      | @obj cs b e arr Fs _ ho hl h1 hr hd hb hF =>
        simp only [AV.kids] at hkid
        have hk : k < cs.length := (List.getElem?_eq_some_iff.1 hkid).1
        have hu : arr[k]? = some arr[k] := Array.getElem?_eq_getElem (hl ▸ hk)
        have ho' := (hf b ((hF b).2 (.inl rfl))).trans ho
        have := R.walk_frame (w' := w') p (hr k cx _ hkid hu) hat fun c hc => hf c ((hF c).2 (.inr ⟨k, hk, hc⟩))
        simp [walk, child, World.cell?, ho, ho', hu, this]
      | @agg cs vs Fs _ hl h1 hr hd hF =>
        simp only [AV.kids] at hkid
        have hk : k < cs.length := (List.getElem?_eq_some_iff.1 hkid).1
        have hu : vs[k]? = some vs[k] := Array.getElem?_eq_getElem (hl ▸ hk)
        have := R.walk_frame (w' := w') p (hr k cx _ hkid hu) hat fun c hc => hf c ((hF c).2 ⟨k, hk, hc⟩)
        simp [walk, child, hu, this]
      | @tup cs vs Fs _ hl hr hd hF =>
        simp only [AV.kids] at hkid
        have hk : k < cs.length := (List.getElem?_eq_some_iff.1 hkid).1
        have hu : vs[k]? = some vs[k] := Array.getElem?_eq_getElem (hl ▸ hk)
        have := R.walk_frame (w' := w') p (hr k cx _ hkid hu) hat fun c hc => hf c ((hF c).2 ⟨k, hk, hc⟩)
        simp [walk, child, hu, this]
      | ref hx _ _ => cases x <;> simp [AV.isRef, AV.kids] at hx hkid
      | _ => simp [AV.kids] at hkid

theorem R.focus {w : World} {I : BSet} {ρ : AV → Value → Prop} : ∀ (q : List Nat) {x : AV} {v : Value} {F : BSet} {y : AV}, R w I ρ x v F → x.at q = some y →
    ∃ vy Fy, walk w v q = some vy ∧ R w I ρ y vy Fy ∧ (∀ c, Fy c → F c) ∧
      (∀ (w' : World), (∀ c, F c → ¬ Fy c → w'.heap[c]? = w.heap[c]?) → walk w' v q = some vy ∧ ∀ r yr, x.at r = some yr → (∃ r', r = q ++ r') ∨ walk w' v r = walk w v r) ∧
      ∀ (w' : World) (I' : BSet) (ρ' : AV → Value → Prop) (y' : AV) (Fy' : BSet), Out w w' I I' ρ ρ' F Fy → R w' I' ρ' y' vy Fy' → (∀ c, Fy' c → F c → Fy c) →
        ∃ F', R w' I' ρ' (x.setAt q y') v F' ∧ ∀ c, F' c ↔ (F c ∧ ¬ Fy c) ∨ Fy' c
  | [], x, v, F, y, h, hat => by
    simp only [AV.at, Option.some.injEq] at hat
    subst hat
    exact ⟨v, F, rfl, h, fun _ h => h, fun _ _ => ⟨rfl, fun r _ _ => .inl ⟨r, rfl⟩⟩, fun w' I' ρ' y' Fy' _ hR _ => ⟨Fy', hR, fun c => by simp⟩⟩
  | k :: p, x, v, F, y, h, hat => by
    simp only [AV.at] at hat
    cases hkid : x.kids[k]? with
    | none => rw [hkid] at hat; cases hat
    | some cx =>
      rw [hkid] at hat
      simp only at hat
      have hset : ∀ y', x.setAt (k :: p) y' = x.setKid k (cx.setAt p y') := fun y' => by simp [AV.setAt, hkid]
      cases h with
      | @own z n cs _ e us Fs _ ho hl h1 hr hd hb hF =>
        simp only [AV.kids] at hkid
        have hk : k < cs.length := (List.getElem?_eq_some_iff.1 hkid).1
        have hu : us[k]? = some us[k] := List.getElem?_eq_getElem (hl ▸ hk)
        obtain ⟨vy, Fy, hw, hRy, hFy, wk, rebuild⟩ := R.focus p (hr k cx _ hkid hu) hat
        refine ⟨vy, Fy, by simp [walk, ownsRow_child ho hu, hw], hRy, fun c hc => (hF c).2 (.inr ⟨k, hk, hFy c hc⟩), ?_, ?_⟩
        · intro w' hs
          have hsk : ∀ j c, j < cs.length → Fs j c → ¬ Fy c → w'.heap[c]? = w.heap[c]? := fun j c hj hc hn => hs c ((hF c).2 (.inr ⟨j, hj, hc⟩)) hn
          obtain ⟨w1, w2⟩ := wk w' fun c hc hn => hsk k c hk hc hn
          have ho' := ownsRow_of_block (w' := w') ho fun c hc => hs c ((hF c).2 (.inl hc)) fun hyc => hb k c hk (hFy c hyc) hc
          refine ⟨by simp [walk, ownsRow_child ho' hu, w1], ?_⟩
          intro r yr hr'
          cases r with
          | nil => exact .inr rfl
          | cons j r =>
            simp only [AV.at, AV.kids] at hr'
            cases hj : cs[j]? with
            | none => rw [hj] at hr'; cases hr'
            | some cj =>
              rw [hj] at hr'
              simp only at hr'
              have hjl : j < cs.length := (List.getElem?_eq_some_iff.1 hj).1
              have huj : us[j]? = some us[j] := List.getElem?_eq_getElem (hl ▸ hjl)
              by_cases hjk : j = k
              · subst hjk
                rw [hkid] at hj
                cases hj
                rcases w2 r yr hr' with ⟨r', rfl⟩ | h
                · exact .inl ⟨r', rfl⟩
                · exact .inr (by simp [walk, ownsRow_child ho hu, ownsRow_child ho' hu, h])
              · have h := R.walk_frame (w' := w') r (hr j cj _ hj huj) hr' fun c hc => hsk j c hjl hc fun hyc => hjk (hd j k c hjl hk hc (hFy c hyc))
                exact .inr (by simp [walk, ownsRow_child ho huj, ownsRow_child ho' huj, h])
        intro w' I' ρ' y' Fy' o hR' hdis
        have hFs : ∀ j c, j < cs.length → Fs j c → F c := fun j c hj hc => (hF c).2 (.inr ⟨j, hj, hc⟩)
        obtain ⟨Fk, hRk, hFk⟩ := rebuild w' I' ρ' y' Fy' (o.mono (fun c hc => hFs k c hk hc) fun c _ h => h) hR' fun c hc hkc => hdis c hc (hFs k c hk hkc)
        obtain ⟨hr', hd'⟩ := kids_set (get := fun j => us[j]?) hr hd hFs hk hFy o hu hRk fun c => by
          constructor
          · intro h
            rcases (hFk c).1 h with h1 | h1
            · exact .inl h1
            · exact .inr ⟨h, fun ⟨h2, h3⟩ => h3 (hdis c h1 h2)⟩
          · rintro (h1 | ⟨h1, _⟩)
            · exact (hFk c).2 (.inl h1)
            · exact h1
        rw [hset]
        refine ⟨_, .own (Fs := fun j => if j = k then Fk else Fs j) (ownsRow_of_block ho fun c hc => o.rest c ((hF c).2 (.inl hc)) fun hyc => hb k c hk (hFy c hyc) hc) (by simpa using hl) h1 hr' hd' ?_ (fun c => Iff.rfl), fun c => ?_⟩
        · intro j c hj hc hvc
          rw [List.length_set] at hj
          by_cases hjk : j = k
          · rw [if_pos hjk] at hc
            rcases (hFk c).1 hc with ⟨h1, _⟩ | h1
            · exact hb k c hk h1 hvc
            · exact hb k c hk (hFy c (hdis c h1 ((hF c).2 (.inl hvc)))) hvc
          · rw [if_neg hjk] at hc; exact hb j c hj hc hvc
        · have hu := kids_union hk hd hFy hFk c
          simp only [List.length_set]
          rw [hu, hF c]
          have hno : v.ownBlock = some c → ¬ Fy c := fun h1 h2 => hb k c hk (hFy c h2) h1
          constructor
          · rintro (h1 | ⟨h1, h2⟩ | h1)
            · exact .inl ⟨.inl h1, hno h1⟩
            · exact .inl ⟨.inr h1, h2⟩
            · exact .inr h1
          · rintro (⟨h1 | h1, h2⟩ | h1)
            · exact .inl h1
            · exact .inr (.inl ⟨h1, h2⟩)
            · exact .inr (.inr h1)
      | @obj cs b e arr Fs _ ho hl h1 hr hd hb hF =>
        simp only [AV.kids] at hkid
        have hk : k < cs.length := (List.getElem?_eq_some_iff.1 hkid).1
        have hu : arr[k]? = some arr[k] := Array.getElem?_eq_getElem (hl ▸ hk)
        obtain ⟨vy, Fy, hw, hRy, hFy, wk, rebuild⟩ := R.focus p (hr k cx _ hkid hu) hat
        refine ⟨vy, Fy, by simp [walk, child, World.cell?, ho, hu, hw], hRy, fun c hc => (hF c).2 (.inr ⟨k, hk, hFy c hc⟩), ?_, ?_⟩
        · intro w' hs
          have hsk : ∀ j c, j < cs.length → Fs j c → ¬ Fy c → w'.heap[c]? = w.heap[c]? := fun j c hj hc hn => hs c ((hF c).2 (.inr ⟨j, hj, hc⟩)) hn
          obtain ⟨w1, w2⟩ := wk w' fun c hc hn => hsk k c hk hc hn
          have ho' := (hs b ((hF b).2 (.inl rfl)) fun hyc => hb k hk (hFy b hyc)).trans ho
          refine ⟨by simp [walk, child, World.cell?, ho', hu, w1], ?_⟩
          intro r yr hr'
          cases r with
          | nil => exact .inr rfl
          | cons j r =>
            simp only [AV.at, AV.kids] at hr'
            cases hj : cs[j]? with
            | none => rw [hj] at hr'; cases hr'
            | some cj =>
              rw [hj] at hr'
              simp only at hr'
              have hjl : j < cs.length := (List.getElem?_eq_some_iff.1 hj).1
              have huj : arr[j]? = some arr[j] := Array.getElem?_eq_getElem (hl ▸ hjl)
              by_cases hjk : j = k
              · subst hjk
                rw [hkid] at hj
                cases hj
                rcases w2 r yr hr' with ⟨r', rfl⟩ | h
                · exact .inl ⟨r', rfl⟩
                · exact .inr (by simp [walk, child, World.cell?, ho, ho', hu, h])
              · have h := R.walk_frame (w' := w') r (hr j cj _ hj huj) hr' fun c hc => hsk j c hjl hc fun hyc => hjk (hd j k c hjl hk hc (hFy c hyc))
                exact .inr (by simp [walk, child, World.cell?, ho, ho', huj, h])
        intro w' I' ρ' y' Fy' o hR' hdis
        have hFs : ∀ j c, j < cs.length → Fs j c → F c := fun j c hj hc => (hF c).2 (.inr ⟨j, hj, hc⟩)
        obtain ⟨Fk, hRk, hFk⟩ := rebuild w' I' ρ' y' Fy' (o.mono (fun c hc => hFs k c hk hc) fun c _ h => h) hR' fun c hc hkc => hdis c hc (hFs k c hk hkc)
        obtain ⟨hr', hd'⟩ := kids_set (get := fun j => arr[j]?) hr hd hFs hk hFy o hu hRk fun c => by
          constructor
          · intro h
            rcases (hFk c).1 h with h1 | h1
            · exact .inl h1
            · exact .inr ⟨h, fun ⟨h2, h3⟩ => h3 (hdis c h1 h2)⟩
          · rintro (h1 | ⟨h1, _⟩)
            · exact (hFk c).2 (.inl h1)
            · exact h1
        rw [hset]
        have hbF : F b := (hF b).2 (.inl rfl)
        have hbn : ¬ Fy b := fun h => hb k hk (hFy b h)
        refine ⟨_, .obj (Fs := fun j => if j = k then Fk else Fs j) ((o.rest b hbF hbn).trans ho) (by simpa using hl) h1 hr' hd' ?_ (fun c => Iff.rfl), fun c => ?_⟩
        · intro j hj hc
          rw [List.length_set] at hj
          by_cases hjk : j = k
          · rw [if_pos hjk] at hc
            rcases (hFk b).1 hc with ⟨h1, _⟩ | h1
            · exact hb k hk h1
            · exact hbn (hdis b h1 hbF)
          · rw [if_neg hjk] at hc; exact hb j hj hc
        · have hu := kids_union hk hd hFy hFk c
          simp only [List.length_set]
          rw [hu, hF c]
          constructor
          · rintro (rfl | ⟨h1, h2⟩ | h1)
            · exact .inl ⟨.inl rfl, hbn⟩
            · exact .inl ⟨.inr h1, h2⟩
            · exact .inr h1
          · rintro (⟨h1 | h1, h2⟩ | h1)
            · exact .inl h1
            · exact .inr (.inl ⟨h1, h2⟩)
            · exact .inr (.inr h1)
      | @agg cs vs Fs _ hl h1 hr hd hF =>
        simp only [AV.kids] at hkid
        have hk : k < cs.length := (List.getElem?_eq_some_iff.1 hkid).1
        have hu : vs[k]? = some vs[k] := Array.getElem?_eq_getElem (hl ▸ hk)
        obtain ⟨vy, Fy, hw, hRy, hFy, wk, rebuild⟩ := R.focus p (hr k cx _ hkid hu) hat
        refine ⟨vy, Fy, by simp [walk, child, hu, hw], hRy, fun c hc => (hF c).2 ⟨k, hk, hFy c hc⟩, ?_, ?_⟩
        · intro w' hs
          have hsk : ∀ j c, j < cs.length → Fs j c → ¬ Fy c → w'.heap[c]? = w.heap[c]? := fun j c hj hc hn => hs c ((hF c).2 ⟨j, hj, hc⟩) hn
          obtain ⟨w1, w2⟩ := wk w' fun c hc hn => hsk k c hk hc hn
          
          refine ⟨by simp [walk, child, hu, w1], ?_⟩
          intro r yr hr'
          cases r with
          | nil => exact .inr rfl
          | cons j r =>
            simp only [AV.at, AV.kids] at hr'
            cases hj : cs[j]? with
            | none => rw [hj] at hr'; cases hr'
            | some cj =>
              rw [hj] at hr'
              simp only at hr'
              have hjl : j < cs.length := (List.getElem?_eq_some_iff.1 hj).1
              have huj : vs[j]? = some vs[j] := Array.getElem?_eq_getElem (hl ▸ hjl)
              by_cases hjk : j = k
              · subst hjk
                rw [hkid] at hj
                cases hj
                rcases w2 r yr hr' with ⟨r', rfl⟩ | h
                · exact .inl ⟨r', rfl⟩
                · exact .inr (by simp [walk, child, hu, h])
              · have h := R.walk_frame (w' := w') r (hr j cj _ hj huj) hr' fun c hc => hsk j c hjl hc fun hyc => hjk (hd j k c hjl hk hc (hFy c hyc))
                exact .inr (by simp [walk, child, huj, h])
        intro w' I' ρ' y' Fy' o hR' hdis
        have hFs : ∀ j c, j < cs.length → Fs j c → F c := fun j c hj hc => (hF c).2 ⟨j, hj, hc⟩
        obtain ⟨Fk, hRk, hFk⟩ := rebuild w' I' ρ' y' Fy' (o.mono (fun c hc => hFs k c hk hc) fun c _ h => h) hR' fun c hc hkc => hdis c hc (hFs k c hk hkc)
        obtain ⟨hr', hd'⟩ := kids_set (get := fun j => vs[j]?) hr hd hFs hk hFy o hu hRk fun c => by
          constructor
          · intro h
            rcases (hFk c).1 h with h1 | h1
            · exact .inl h1
            · exact .inr ⟨h, fun ⟨h2, h3⟩ => h3 (hdis c h1 h2)⟩
          · rintro (h1 | ⟨h1, _⟩)
            · exact (hFk c).2 (.inl h1)
            · exact h1
        rw [hset]
        refine ⟨_, .agg (Fs := fun j => if j = k then Fk else Fs j) (by simpa using hl) h1 hr' hd' (fun c => Iff.rfl), fun c => ?_⟩
        have hu := kids_union hk hd hFy hFk c
        simp only [List.length_set]
        rw [hu, hF c]
      | @tup cs vs Fs _ hl hr hd hF =>
        simp only [AV.kids] at hkid
        have hk : k < cs.length := (List.getElem?_eq_some_iff.1 hkid).1
        have hu : vs[k]? = some vs[k] := Array.getElem?_eq_getElem (hl ▸ hk)
        obtain ⟨vy, Fy, hw, hRy, hFy, wk, rebuild⟩ := R.focus p (hr k cx _ hkid hu) hat
        refine ⟨vy, Fy, by simp [walk, child, hu, hw], hRy, fun c hc => (hF c).2 ⟨k, hk, hFy c hc⟩, ?_, ?_⟩
        · intro w' hs
          have hsk : ∀ j c, j < cs.length → Fs j c → ¬ Fy c → w'.heap[c]? = w.heap[c]? := fun j c hj hc hn => hs c ((hF c).2 ⟨j, hj, hc⟩) hn
          obtain ⟨w1, w2⟩ := wk w' fun c hc hn => hsk k c hk hc hn
          
          refine ⟨by simp [walk, child, hu, w1], ?_⟩
          intro r yr hr'
          cases r with
          | nil => exact .inr rfl
          | cons j r =>
            simp only [AV.at, AV.kids] at hr'
            cases hj : cs[j]? with
            | none => rw [hj] at hr'; cases hr'
            | some cj =>
              rw [hj] at hr'
              simp only at hr'
              have hjl : j < cs.length := (List.getElem?_eq_some_iff.1 hj).1
              have huj : vs[j]? = some vs[j] := Array.getElem?_eq_getElem (hl ▸ hjl)
              by_cases hjk : j = k
              · subst hjk
                rw [hkid] at hj
                cases hj
                rcases w2 r yr hr' with ⟨r', rfl⟩ | h
                · exact .inl ⟨r', rfl⟩
                · exact .inr (by simp [walk, child, hu, h])
              · have h := R.walk_frame (w' := w') r (hr j cj _ hj huj) hr' fun c hc => hsk j c hjl hc fun hyc => hjk (hd j k c hjl hk hc (hFy c hyc))
                exact .inr (by simp [walk, child, huj, h])
        intro w' I' ρ' y' Fy' o hR' hdis
        have hFs : ∀ j c, j < cs.length → Fs j c → F c := fun j c hj hc => (hF c).2 ⟨j, hj, hc⟩
        obtain ⟨Fk, hRk, hFk⟩ := rebuild w' I' ρ' y' Fy' (o.mono (fun c hc => hFs k c hk hc) fun c _ h => h) hR' fun c hc hkc => hdis c hc (hFs k c hk hkc)
        obtain ⟨hr', hd'⟩ := kids_set (get := fun j => vs[j]?) hr hd hFs hk hFy o hu hRk fun c => by
          constructor
          · intro h
            rcases (hFk c).1 h with h1 | h1
            · exact .inl h1
            · exact .inr ⟨h, fun ⟨h2, h3⟩ => h3 (hdis c h1 h2)⟩
          · rintro (h1 | ⟨h1, _⟩)
            · exact (hFk c).2 (.inl h1)
            · exact h1
        rw [hset]
        refine ⟨_, .tup (Fs := fun j => if j = k then Fk else Fs j) (by simpa using hl) hr' hd' (fun c => Iff.rfl), fun c => ?_⟩
        have hu := kids_union hk hd hFy hFk c
        simp only [List.length_set]
        rw [hu, hF c]
      | ref hx _ _ => cases x <;> simp [AV.isRef, AV.kids] at hx hkid
      | _ => simp [AV.kids] at hkid
end Go.Own
