import Derived.Test.YteohndfkdfehcaaE18
namespace Go.Own
open Go

/-- All references in it meet 'φ'. -/
inductive RKp (φ : AV → Prop) : AV → Prop
  | nr {x : AV} (h : NR x) : RKp φ x
  | ref {x : AV} (hx : x.isRef = true) (h : φ x) : RKp φ x
  | own {z n : Nat} {cs : List AV} (h : ∀ x ∈ cs, RKp φ x) : RKp φ (.own z n cs)
  | obj {cs : List AV} (h : ∀ x ∈ cs, RKp φ x) : RKp φ (.obj cs)
  | agg {cs : List AV} (h : ∀ x ∈ cs, RKp φ x) : RKp φ (.agg cs)
  | tup {cs : List AV} (h : ∀ x ∈ cs, RKp φ x) : RKp φ (.tup cs)
  | clo {fn : Fn} {a b : List AV} (h1 : ∀ x ∈ a, RKp φ x) (h2 : ∀ x ∈ b, RKp φ x) : RKp φ (.clo fn a b)

def refPlace : AV → Option Place
  | .ptr p _ => some p
  | .brw _ p _ => some p
  | .sub _ p _ _ => some p
  | .pend _ p _ _ _ => some p
  | _ => none

/-- A reference whose way does not lead through the cells from 'k' below 'k + m' of the node at 'p'. -/
def Clear (p : Place) (k m : Nat) (r : AV) : Prop := ∀ q, refPlace r = some q → q.root = p.root → ∀ j r', q.path = p.path ++ j :: r' → j < k ∨ k + m ≤ j

def splice {α : Type} (l : List α) (k : Nat) (c : List α) : List α := l.take k ++ c ++ l.drop (k + c.length)

theorem splice_length {α : Type} {l : List α} {k : Nat} {c : List α} (h : k + c.length ≤ l.length) : (splice l k c).length = l.length := by
  simp [splice]; omega

theorem splice_get {α : Type} {l : List α} {k : Nat} {c : List α} (h : k + c.length ≤ l.length) (j : Nat) : (splice l k c)[j]? = if k ≤ j ∧ j < k + c.length then c[j - k]? else l[j]? := by
  unfold splice
  rw [List.append_assoc]
  by_cases h1 : j < k
  · rw [List.getElem?_append_left (by simp; omega), List.getElem?_take, if_pos h1, if_neg (by omega)]
  · rw [List.getElem?_append_right (by simp; omega)]
    have : (l.take k).length = k := by simp; omega
    rw [this]
    by_cases h2 : j < k + c.length
    · rw [List.getElem?_append_left (by omega), if_pos ⟨by omega, h2⟩]
    · rw [List.getElem?_append_right (by omega), List.getElem?_drop, if_neg (by omega)]
      congr 1; omega

theorem splice_take {α : Type} {l : List α} {k : Nat} {c : List α} {m : Nat} (h : k + c.length ≤ m) (hm : m ≤ l.length) : (splice l k c).take m = splice (l.take m) k c := by
  have h1 : k + c.length ≤ (l.take m).length := by rw [List.length_take]; omega
  apply List.ext_getElem?
  intro j
  rw [List.getElem?_take, splice_get h1, splice_get (l := l) (by omega), List.getElem?_take]
  by_cases hj : j < m
  · rw [if_pos hj, if_pos hj]
  · rw [if_neg hj, if_neg hj, if_neg (by omega)]

def AV.splice (x : AV) (k : Nat) (c : List AV) : AV :=
  match x with
  | .own z n cs => .own z n (Own.splice cs k c)
  | .obj cs => .obj (Own.splice cs k c)
  | x => x

section
variable {w : World} {I : BSet} {T : Array Value} {g : Gst} {Fs : Nat → BSet}

theorem R.rkp {ρ : AV → Value → Prop} {φ : AV → Prop} {x : AV} {v : Value} {F : BSet} (h : R w I ρ x v F) : RKp φ x → R w I (fun r u => ρ r u ∧ φ r) x v F := by
  induction h with
  | lit h hF => exact fun _ => .lit h hF
  | nils hF => exact fun _ => .nils hF
  | dead hF => exact fun _ => .dead hF
  | @ref x _ _ hx h hF =>
    intro hk
    refine .ref hx ⟨h, ?_⟩ hF
    cases hk with
    | ref _ h => exact h
    | nr h => cases h <;> simp [AV.isRef] at hx
    | _ => simp [AV.isRef] at hx
  | imm0 hF => exact fun _ => .imm0 hF
  | imm hF hcap hI hs hl h1 hc hr ih =>
    intro hk
    cases hk with
    | ref hx => simp [AV.isRef] at hx
    | nr h => cases h with | imm h => exact .imm hF hcap hI hs hl h1 hc fun k x hx => ih k x hx (.nr (h x (List.mem_of_getElem? hx)))
  | iptr hF hI hs h1 hc hr ih =>
    intro hk
    cases hk with
    | ref hx => simp [AV.isRef] at hx
    | nr h => cases h with | iptr h => exact .iptr hF hI hs h1 hc fun k x hx => ih k x hx (.nr (h x (List.mem_of_getElem? hx)))
  | own ho hl h1 hr hd hb hF ih =>
    intro hk
    refine .own ho hl h1 (fun k x u hx hu => ih k x u hx hu ?_) hd hb hF
    cases hk with
    | ref hx => simp [AV.isRef] at hx
    | nr h => cases h with | own h => exact .nr (h x (List.mem_of_getElem? hx))
    | own h => exact h x (List.mem_of_getElem? hx)
  | obj ho hl h1 hr hd hb hF ih =>
    intro hk
    refine .obj ho hl h1 (fun k x u hx hu => ih k x u hx hu ?_) hd hb hF
    cases hk with
    | ref hx => simp [AV.isRef] at hx
    | nr h => cases h with | obj h => exact .nr (h x (List.mem_of_getElem? hx))
    | obj h => exact h x (List.mem_of_getElem? hx)
  | agg hl h1 hr hd hF ih =>
    intro hk
    refine .agg hl h1 (fun k x u hx hu => ih k x u hx hu ?_) hd hF
    cases hk with
    | ref hx => simp [AV.isRef] at hx
    | nr h => cases h with | agg h => exact .nr (h x (List.mem_of_getElem? hx))
    | agg h => exact h x (List.mem_of_getElem? hx)
  | tup hl hr hd hF ih =>
    intro hk
    refine .tup hl (fun k x u hx hu => ih k x u hx hu ?_) hd hF
    cases hk with
    | ref hx => simp [AV.isRef] at hx
    | nr h => cases h with | tup h => exact .nr (h x (List.mem_of_getElem? hx))
    | tup h => exact h x (List.mem_of_getElem? hx)
  | @clo fn first caps v1 v2 F hF h1 h2 hr1 hr2 ih1 ih2 =>
    intro hk
    have : (∀ x ∈ first, RKp φ x) ∧ ∀ x ∈ caps, RKp φ x := by
      cases hk with
      | ref hx => simp [AV.isRef] at hx
      | nr h => cases h with | clo h1 h2 => exact ⟨fun x hx => .nr (h1 x hx), fun x hx => .nr (h2 x hx)⟩
      | clo h1 h2 => exact ⟨h1, h2⟩
    exact .clo hF h1 h2 (fun k x u hx hu => ih1 k x u hx hu (this.1 x (List.mem_of_getElem? hx))) (fun k x u hx hu => ih2 k x u hx hu (this.2 x (List.mem_of_getElem? hx)))

/-- The references in what is put in place of a part, and those in the rest. -/
theorem setP_root {p : Place} {y : AV} {x : AV} (hx : g p.root = some x) : setP g p y p.root = some (x.setAt p.path y) := by simp [setP, hx]

/-- A store into cells of a node. -/
theorem SRc.store (hS : SRc w I T g Fs) {p : Place} {nd : AV} {z n : Nat} {cs : List AV} (hp : atP g p = some nd) (hnd : nd = .own z n cs ∨ nd = .obj cs) {k : Nat} {cs' : List AV} (hk : k + cs'.length ≤ cs.length)
    {us' : List Value} {Hs : Nat → BSet} (hH : Hand w I (RefAt w T) Fs cs' us' Hs) (hnr : ∀ x ∈ cs', NR x) (hone : ∀ (j : Nat) (u : Value), us'[j]? = some u → u.oneCell' = true)
    {g2 : Gst} (hg2 : ∀ t x, g2 t = some x → setP g p (nd.splice k cs') t = some x)
    (hrk : ∀ t x, g2 t = some x → ∀ y, g t = some y → RKp (fun r => RefOk g r ∧ Clear p k cs'.length r ∧ RefOk g2 r) y) (hnp : ∀ t z q n m new, g2 t ≠ some (.pend z q n m new)) (hroot : g2 p.root ≠ none) {b : Nat} {v : Value}
    (hv : valAt w T p = some v) (hb : addrOf v = some ⟨b, 0, none⟩) {e : TypeId} {arr : Array Value} (harr : w.heap[b]? = some (.cells arr e (0, 0))) :
    ∃ Fs', SR (w.setRow b (splice arr.toList k us').toArray) I T g2 Fs' ∧ ∀ t c, Fs' t c → Fs t c ∨ ∃ j, j < cs'.length ∧ Hs j c := by
  have notPend : ∀ z q n m new, nd ≠ .pend z q n m new := by rcases hnd with rfl | rfl <;> simp
  have hlen := hH.len
  have w'o : ∀ c, c ≠ b → (w.setRow b (splice arr.toList k us').toArray).heap[c]? = w.heap[c]? := fun c hc => setRow_other w b c _ hc
  have w'b : (w.setRow b (splice arr.toList k us').toArray).heap[b]? = some (.cells (splice arr.toList k us').toArray e (0, 0)) := setRow_heap w b arr _ e (0, 0) harr
  have w's : (w.setRow b (splice arr.toList k us').toArray).heap.size = w.heap.size := by simp
  generalize hw' : w.setRow b (splice arr.toList k us').toArray = w' at *
  -- the slot of the node
  obtain ⟨x0, hx0⟩ : ∃ x0, g p.root = some x0 := by
    unfold atP at hp
    cases hx : g p.root with
    | none => rw [hx] at hp; cases hp
    | some x => exact ⟨x, rfl⟩
  have hat0 : x0.at p.path = some nd := by simpa [atP, hx0] using hp
  obtain ⟨v0, hv0, hR0⟩ := hS.rel _ _ hx0
  have hR0' := hR0.isTree (by rintro z q n m new rfl; exact notPend _ _ _ _ _ (AV.at_pend hat0).2)
  have hk0 : RKp (fun r => RefOk g r ∧ Clear p k cs'.length r ∧ RefOk g2 r) x0 := by
    cases h2 : g2 p.root with
    | none => exact absurd h2 hroot
    | some y => exact hrk _ _ h2 _ hx0
  let ρ1 : AV → Value → Prop := fun r u => RefAt w T r u ∧ RefOk g r ∧ Clear p k cs'.length r ∧ RefOk g2 r
  have hR1 : R w I ρ1 x0 v0 (Fs p.root) := hR0'.rkp hk0
  obtain ⟨vy, Fy, hw, hRy, hFy, wk, rebuild⟩ := R.focus p.path hR1 hat0
  have hvy : vy = v := by simp only [valAt, hv0, hw, Option.some.injEq] at hv; exact hv
  subst hvy
  have hbF : Fy b := hRy.node_block (z := z) (n := n) hnd hb
  have same : ∀ t c, Fs t c → c ≠ b → w'.heap[c]? = w.heap[c]? := fun _ c _ hc => w'o c hc
  have hIb : ∀ c, I c → w'.heap[c]? = w.heap[c]? := fun c hc => w'o c fun e => hS.imm _ b (hFy b hbF) (e ▸ hc)
  have hother : ∀ t, t ≠ p.root → ¬ Fs t b := fun t ht h => ht (hS.dis _ _ _ h (hFy b hbF))
  -- ways that are clear of the cells
  obtain ⟨wk1, wk2⟩ := wk w' fun c hc hn => w'o c fun e => hn (e ▸ hbF)
  have kid : ∀ (ρ' : AV → Value → Prop), (∀ x v, ρ1 x v → ρ' x v) → (∃ F', R w' I ρ' (nd.splice k cs') vy F' ∧ ∀ c, F' c → Fy c ∨ ∃ j, j < cs'.length ∧ Hs j c) ∧ ∀ j r' y, (j < k ∨ k + cs'.length ≤ j) → nd.at (j :: r') = some y → walk w' vy (j :: r') = walk w vy (j :: r') := by
    intro ρ' hρ
    have new : ∀ (j : Nat) (x : AV) (u : Value), cs'[j]? = some x → us'[j]? = some u → R w' I ρ' x u (Hs j) := by
      intro j x u hx hu
      have hj : j < cs'.length := (List.getElem?_eq_some_iff.1 hx).1
      have := (hH.rel j x u hx hu).nr (ρ' := ρ') (hnr x (List.mem_of_getElem? hx))
      exact this.frame hIb (fun _ h => h) (fun _ _ h => h) fun c hc => w'o c fun e => hH.off j p.root b hj (e ▸ hc) (hFy b hbF)
    rcases hnd with rfl | rfl
    · cases hRy with
      | ref hx => simp [AV.isRef] at hx
      | @own _ _ _ _ e' us Fk _ ho hl h1 hr hd hbb hF =>
        obtain ⟨hus, hh⟩ := ho
        rcases hh with ⟨rfl, _⟩ | ⟨b', cap, cur, rfl, r1, r2, r3, r4, r5, r6⟩
        · simp [addrOf] at hb
        · simp only [addrOf, Option.some.injEq, Addr.mk.injEq, and_true] at hb
          subst hb
          rw [harr] at r2
          cases r2
          have hcur : n * z ≤ arr.toList.length := by
            rw [← hus, ← r6, List.length_take] ; simp; omega
          have husl : us.length = cs.length := hl.symm
          have ho' : w'.ownsRow 0 e z (.slice (some ⟨b', 0, none⟩) n cap) n (splice us k us') := by
            refine ⟨by rw [splice_length (by omega), hus], .inr ⟨b', cap, _, rfl, r1, w'b, r3, r4, ?_, ?_⟩⟩
            · rw [List.size_toArray, splice_length (by omega), Array.length_toList, r5]
            · show (splice arr.toList k us').take (n * z) = _
              rw [splice_take (by omega) hcur, r6]
          have hFkb : ∀ j, j < cs.length → ¬ Fk j b' := fun j hj h => hbb j b' hj h rfl
          have hFk : ∀ j c, j < cs.length → Fk j c → Fs p.root c := fun j c hj hc => hFy c ((hF c).2 (.inr ⟨j, hj, hc⟩))
          refine ⟨⟨_, .own (Fs := fun j => if k ≤ j ∧ j < k + cs'.length then Hs (j - k) else Fk j) ho' (by rw [splice_length hk, splice_length (by omega), hl]) (fun j u hu => ?_) (fun j x u hx hu => ?_) (fun i j c hi hj hc hc' => ?_) (fun j c hj hc hvc => ?_) (fun c => Iff.rfl), fun c hc => ?_⟩, fun j r' y hj hy => ?_⟩
          · rw [splice_get (by omega)] at hu
            split at hu
            · exact hone _ u hu
            · exact h1 j u hu
          · rw [splice_get hk] at hx
            rw [splice_get (by omega), ← hlen] at hu
            by_cases hjk : k ≤ j ∧ j < k + cs'.length
            · rw [if_pos hjk] at hx hu
              simpa [hjk] using new (j - k) x u hx hu
            · rw [if_neg hjk] at hx hu
              have hjl : j < cs.length := (List.getElem?_eq_some_iff.1 hx).1
              rw [if_neg hjk]
              exact (hr j x u hx hu).frame hIb (fun _ h => h) hρ fun c hc => w'o c fun e => hFkb j hjl (e ▸ hc)
          · rw [splice_length hk] at hi hj
            by_cases h1 : k ≤ i ∧ i < k + cs'.length <;> by_cases h2 : k ≤ j ∧ j < k + cs'.length <;> simp only [h1, h2, if_false] at hc hc'
            · have := hH.dis (i - k) (j - k) c (by omega) (by omega) (by simpa using hc) (by simpa using hc')
              omega
            · exact absurd (hFk j c hj hc') (hH.off (i - k) _ c (by omega) (by simpa using hc))
            · exact absurd (hFk i c hi hc) (hH.off (j - k) _ c (by omega) (by simpa using hc'))
            · exact hd i j c hi hj hc hc'
          · rw [splice_length hk] at hj
            by_cases h1 : k ≤ j ∧ j < k + cs'.length
            · rw [if_pos h1] at hc
              simp only [Value.ownBlock, Option.some.injEq] at hvc
              subst hvc
              exact hH.off (j - k) p.root b' (by omega) hc (hFy b' hbF)
            · rw [if_neg h1] at hc; exact hbb j c hj hc hvc
          · rcases hc with hc | ⟨j, hj, hc⟩
            · exact .inl ((hF c).2 (.inl hc))
            · rw [splice_length hk] at hj
              by_cases h1 : k ≤ j ∧ j < k + cs'.length
              · rw [if_pos h1] at hc; exact .inr ⟨j - k, by omega, hc⟩
              · rw [if_neg h1] at hc; exact .inl ((hF c).2 (.inr ⟨j, hj, hc⟩))
          · obtain ⟨c, hkc, hc⟩ := AV.at_cons hy
            simp only [AV.kids] at hkc
            have hjl : j < cs.length := (List.getElem?_eq_some_iff.1 hkc).1
            have hu : us[j]? = some us[j] := List.getElem?_eq_getElem (by omega)
            have hch : child w (.slice (some ⟨b', 0, none⟩) n cap) j = some us[j] := by
              refine ownsRow_child (e := e) (z := z) (n := n) (us := us) ⟨hus, .inr ⟨b', cap, arr, rfl, r1, harr, r3, r4, r5, r6⟩⟩ hu
            have hch' : child w' (.slice (some ⟨b', 0, none⟩) n cap) j = some us[j] := by
              refine ownsRow_child ho' ?_
              rw [splice_get (by omega), if_neg (by omega)]; exact hu
            have := R.walk_frame (w' := w') r' (hr j c _ hkc hu) hc fun c hc => w'o c fun e => hFkb j hjl (e ▸ hc)
            simp [walk, hch, hch', this]
    · cases hRy with
      | ref hx => simp [AV.isRef] at hx
      | @obj _ b' e' arr' Fk _ ho hl h1 hr hd hbb hF =>
        simp only [addrOf, Option.some.injEq, Addr.mk.injEq, and_true] at hb
        subst hb
        rw [harr] at ho
        cases ho
        have hal : cs.length = arr.toList.length := by simp [hl]
        have hFk : ∀ j c, j < cs.length → Fk j c → Fs p.root c := fun j c hj hc => hFy c ((hF c).2 (.inr ⟨j, hj, hc⟩))
        refine ⟨⟨_, .obj (Fs := fun j => if k ≤ j ∧ j < k + cs'.length then Hs (j - k) else Fk j) w'b (by rw [splice_length hk, List.size_toArray, splice_length (by omega), hal]) (fun j u hu => ?_) (fun j x u hx hu => ?_) (fun i j c hi hj hc hc' => ?_) (fun j hj hc => ?_) (fun c => Iff.rfl), fun c hc => ?_⟩, fun j r' y hj hy => ?_⟩
        · rw [List.getElem?_toArray, splice_get (by omega)] at hu
          split at hu
          · exact hone _ u hu
          · exact h1 j u (by simpa using hu)
        · rw [splice_get hk] at hx
          rw [List.getElem?_toArray, splice_get (by omega), ← hlen] at hu
          by_cases hjk : k ≤ j ∧ j < k + cs'.length
          · rw [if_pos hjk] at hx hu
            simpa [hjk] using new (j - k) x u hx hu
          · rw [if_neg hjk] at hx hu
            have hjl : j < cs.length := (List.getElem?_eq_some_iff.1 hx).1
            rw [if_neg hjk]
            exact (hr j x u hx (by simpa using hu)).frame hIb (fun _ h => h) hρ fun c hc => w'o c fun e => hbb j hjl (e ▸ hc)
        · rw [splice_length hk] at hi hj
          by_cases h1 : k ≤ i ∧ i < k + cs'.length <;> by_cases h2 : k ≤ j ∧ j < k + cs'.length <;> simp only [h1, h2, if_false] at hc hc'
          · have := hH.dis (i - k) (j - k) c (by omega) (by omega) (by simpa using hc) (by simpa using hc')
            omega
          · exact absurd (hFk j c hj hc') (hH.off (i - k) _ c (by omega) (by simpa using hc))
          · exact absurd (hFk i c hi hc) (hH.off (j - k) _ c (by omega) (by simpa using hc'))
          · exact hd i j c hi hj hc hc'
        · rw [splice_length hk] at hj
          by_cases h1 : k ≤ j ∧ j < k + cs'.length
          · rw [if_pos h1] at hc
            exact hH.off (j - k) p.root b' (by omega) hc (hFy b' hbF)
          · rw [if_neg h1] at hc; exact hbb j hj hc
        · rcases hc with hc | ⟨j, hj, hc⟩
          · exact .inl ((hF c).2 (.inl hc))
          · rw [splice_length hk] at hj
            by_cases h1 : k ≤ j ∧ j < k + cs'.length
            · rw [if_pos h1] at hc; exact .inr ⟨j - k, by omega, hc⟩
            · rw [if_neg h1] at hc; exact .inl ((hF c).2 (.inr ⟨j, hj, hc⟩))
        · obtain ⟨c, hkc, hc⟩ := AV.at_cons hy
          simp only [AV.kids] at hkc
          have hjl : j < cs.length := (List.getElem?_eq_some_iff.1 hkc).1
          have hu : arr[j]? = some arr[j] := Array.getElem?_eq_getElem (by omega)
          have hch : child w (.pointer (some ⟨b', 0, none⟩)) j = some arr[j] := by simp [child, World.cell?, harr, hu]
          have hch' : child w' (.pointer (some ⟨b', 0, none⟩)) j = some arr[j] := by
            have h3 : (splice arr.toList k us')[j]? = some arr[j] := by
              rw [splice_get (by omega), if_neg (by omega)]; simp
            simp [child, World.cell?, w'b, h3]
          have := R.walk_frame (w' := w') r' (hr j c _ hkc hu) hc fun c hc => w'o c fun e => hbb j hjl (e ▸ hc)
          simp [walk, hch, hch', this]
  have val : ∀ q y, atP g q = some y → (q.root = p.root → ∀ j r', q.path = p.path ++ j :: r' → j < k ∨ k + cs'.length ≤ j) → valAt w' T q = valAt w T q := by
    intro q y hq hcl
    by_cases hr : q.root = p.root
    · have hat : x0.at q.path = some y := by simpa [atP, hr, hx0] using hq
      rcases wk2 q.path y hat with ⟨r', hr'⟩ | h
      · have hw' : walk w' v0 q.path = walk w v0 q.path := by
          rw [hr', walk_app, walk_app, wk1, hw]
          simp only [Option.bind_some]
          cases r' with
          | nil => rfl
          | cons j r' =>
            rw [hr', AV.at_app, hat0] at hat
            exact (kid (fun _ _ => True) (fun _ _ _ => trivial)).2 j r' y (hcl hr j r' hr') hat
        simp [valAt, hr, hv0, hw']
      · simp [valAt, hr, hv0, h]
    · unfold atP at hq
      cases hx : g q.root with
      | none => rw [hx] at hq; cases hq
      | some x =>
        rw [hx] at hq
        obtain ⟨u, hu, hR⟩ := hS.rel _ _ hx
        cases hR with
        | tree hR =>
          have := R.walk_frame (w' := w') q.path hR hq fun c hc => w'o c fun e => hother _ hr (e ▸ hc)
          simp [valAt, hu, this]
        | pend hR => simp [valAt, hu, (AV.at_pend hq).1, walk]
  have slot : ∀ {q : Place} {x : AV}, q.path = [] → g q.root = some x → valAt w' T q = valAt w T q := by
    intro q x hq hx
    obtain ⟨u, hu, _⟩ := hS.rel _ _ hx
    simp [valAt, hq, walk]
  have refs : ∀ r u, ρ1 r u → RG w' T g2 r u := by
    rintro r u ⟨h1, h2, h3, h4⟩
    refine ⟨?_, h4⟩
    cases r <;> simp only [RefAt, RefOk] at h1 h2 ⊢
    case ptr q j => obtain ⟨y, hy, _⟩ := h2; rw [val q y hy (h3 q rfl)]; exact h1
    case brw z' q n' =>
      rcases h2 with ⟨_, _, h2, _⟩ | ⟨h0, _, _, _, _, h2, _⟩
      · rw [val q _ h2 (h3 q rfl)]; exact h1
      · rw [slot h0 h2]; exact h1
    case sub z' q lo n' => obtain ⟨_, _, h2, _⟩ := h2; rw [val q _ h2 (h3 q rfl)]; exact h1
    case pend z' q n' m' new' =>
      rcases h2 with ⟨_, h2⟩ | ⟨h0, _, _, _, _, _, h2, _⟩
      · rw [val q _ h2 (h3 q rfl)]; exact h1
      · rw [slot h0 h2]; exact h1
  obtain ⟨⟨Fn, hRn, hFn⟩, _⟩ := kid (RG w' T g2) refs
  obtain ⟨F', hRF, hF'⟩ := rebuild w' I (RG w' T g2) _ Fn ⟨hIb, fun c hc hn => w'o c fun e => hn (e ▸ hbF), fun _ h => h, refs⟩ hRn fun c hc hc' => by
    rcases hFn c hc with h | ⟨j, hj, h⟩
    · exact h
    · exact absurd hc' (hH.off j _ c hj h)
  have hF'' : ∀ c, F' c → Fs p.root c ∨ ∃ j, j < cs'.length ∧ Hs j c := by
    intro c hc
    rcases (hF' c).1 hc with h | h
    · exact .inl h.1
    · rcases hFn c h with h | h
      · exact .inl (hFy c h)
      · exact .inr h
  let Fs' : Nat → BSet := fun t c => if t = p.root then F' c else g2 t ≠ none ∧ Fs t c
  have hFs' : ∀ t c, Fs' t c → Fs t c ∨ ∃ j, j < cs'.length ∧ Hs j c := by
    intro t c hc
    by_cases ht : t = p.root
    · simp only [Fs', if_pos ht] at hc; rw [ht]; exact hF'' c hc
    · simp only [Fs', if_neg ht] at hc; exact .inl hc.2
  refine ⟨Fs', ⟨fun t x hx => ?_, fun t ht c hc => ?_, fun t t' c hc hc' => ?_, fun t c hc hi => ?_, fun c hc => by have := hS.lt c hc; omega, fun t t' z q n m new z' n' m' new' h1 => absurd h1 (hnp _ _ _ _ _ _)⟩, hFs'⟩
  · have hx' := hg2 t x hx
    by_cases ht : t = p.root
    · subst ht
      have hxe : x0.setAt p.path (nd.splice k cs') = x := by simpa [setP, hx0] using hx'
      refine ⟨v0, hv0, .tree ?_⟩
      have hFe : Fs' p.root = F' := by funext c; simp [Fs']
      rw [← hxe, hFe]; exact hRF
    · rw [setP_slot ht] at hx'
      obtain ⟨u, hu, hR⟩ := hS.rel t x hx'
      replace hR := hR.isTree (by rintro z q n m new rfl; exact hnp _ _ _ _ _ _ hx)
      have hFe : Fs' t = Fs t := by
        funext c
        exact propext ⟨fun h => by simp only [Fs', if_neg ht] at h; exact h.2, fun h => by simp only [Fs', if_neg ht]; exact ⟨by rw [hx]; simp, h⟩⟩
      refine ⟨u, hu, .tree ?_⟩
      rw [hFe]
      exact (hR.rkp (hrk t x hx x hx')).frame hIb (fun _ h => h) refs fun c hc => w'o c fun e => hother t ht (e ▸ hc)
  · by_cases htr : t = p.root
    · exact hroot (htr ▸ ht)
    · simp only [Fs', if_neg htr] at hc; exact hc.1 ht
  · by_cases h1 : t = p.root <;> by_cases h2 : t' = p.root
    · rw [h1, h2]
    · simp only [Fs', if_pos h1] at hc; simp only [Fs', if_neg h2] at hc'
      rcases hF'' c hc with h | ⟨j, hj, h⟩
      · exact absurd (hS.dis _ _ _ h hc'.2) (Ne.symm h2)
      · exact absurd hc'.2 (hH.off j _ c hj h)
    · simp only [Fs', if_neg h1] at hc; simp only [Fs', if_pos h2] at hc'
      rcases hF'' c hc' with h | ⟨j, hj, h⟩
      · exact absurd (hS.dis _ _ _ hc.2 h) h1
      · exact absurd hc.2 (hH.off j _ c hj h)
    · simp only [Fs', if_neg h1] at hc; simp only [Fs', if_neg h2] at hc'
      exact hS.dis _ _ _ hc.2 hc'.2
  · rcases hFs' t c hc with h | ⟨j, hj, h⟩
    · exact hS.imm _ c h hi
    · exact hH.imm j c hj h hi
end
end Go.Own
