import Derived.Test.YteohndfkdfehcaaE9
namespace Go.Own
open Go

section
variable {w w' : World} {I : BSet} {ρ ρ' : AV → Value → Prop}

/-- The parts of a value. -/
theorem R.kids {x : AV} {v : Value} {F : BSet} (h : R w I ρ x v F) (hx : x.kids ≠ []) : ∃ Fs : Nat → BSet,
    (∀ k y, x.kids[k]? = some y → ∃ u, child w v k = some u ∧ R w I ρ y u (Fs k)) ∧ (∀ (j k c : Nat), j < x.kids.length → k < x.kids.length → Fs j c → Fs k c → j = k) ∧
    (∀ k c, k < x.kids.length → Fs k c → F c) ∧ (∀ z n cs, x = .own z n cs → ∀ c, v.ownBlock = some c → ∀ k, k < x.kids.length → ¬ Fs k c) := by
  cases h with
  | @own z n cs _ e us Fs _ ho hl h1 hr hd hb hF =>
    refine ⟨Fs, fun k y hk => ?_, hd, fun k c hk hc => (hF c).2 (.inr ⟨k, hk, hc⟩), fun _ _ _ _ c hc k hk h => hb k c hk h hc⟩
    simp only [AV.kids] at hk
    have hlt : k < cs.length := (List.getElem?_eq_some_iff.1 hk).1
    have hu : us[k]? = some us[k] := List.getElem?_eq_getElem (hl ▸ hlt)
    exact ⟨_, ownsRow_child ho hu, hr k y _ hk hu⟩
  | @obj cs b e arr Fs _ ho hl h1 hr hd hb hF =>
    refine ⟨Fs, fun k y hk => ?_, hd, fun k c hk hc => (hF c).2 (.inr ⟨k, hk, hc⟩), fun _ _ _ h => by simp at h⟩
    simp only [AV.kids] at hk
    have hlt : k < cs.length := (List.getElem?_eq_some_iff.1 hk).1
    have hu : arr[k]? = some arr[k] := Array.getElem?_eq_getElem (hl ▸ hlt)
    exact ⟨_, by simp [child, World.cell?, ho, hu], hr k y _ hk hu⟩
  | @agg cs vs Fs _ hl h1 hr hd hF =>
    refine ⟨Fs, fun k y hk => ?_, hd, fun k c hk hc => (hF c).2 ⟨k, hk, hc⟩, fun _ _ _ h => by simp at h⟩
    simp only [AV.kids] at hk
    have hlt : k < cs.length := (List.getElem?_eq_some_iff.1 hk).1
    have hu : vs[k]? = some vs[k] := Array.getElem?_eq_getElem (hl ▸ hlt)
    exact ⟨_, by simp [child, hu], hr k y _ hk hu⟩
  | @tup cs vs Fs _ hl hr hd hF =>
    refine ⟨Fs, fun k y hk => ?_, hd, fun k c hk hc => (hF c).2 ⟨k, hk, hc⟩, fun _ _ _ h => by simp at h⟩
    simp only [AV.kids] at hk
    have hlt : k < cs.length := (List.getElem?_eq_some_iff.1 hk).1
    have hu : vs[k]? = some vs[k] := Array.getElem?_eq_getElem (hl ▸ hlt)
    exact ⟨_, by simp [child, hu], hr k y _ hk hu⟩
  | ref hx' => cases x <;> simp [AV.isRef, AV.kids] at hx' hx
  | _ => simp [AV.kids] at hx

theorem AV.at_cons {x y : AV} {k : Nat} {p : List Nat} (h : x.at (k :: p) = some y) : ∃ c, x.kids[k]? = some c ∧ c.at p = some y := by
  simp only [AV.at] at h
  cases hk : x.kids[k]? with
  | none => rw [hk] at h; cases h
  | some c => rw [hk] at h; exact ⟨c, rfl, h⟩

/-- One block, one row. -/
theorem R.node_inj {b : Nat} : ∀ (q r : List Nat) {x : AV} {v : Value} {F : BSet} {z n z' n' : Nat} {cs cs' : List AV} {vq vr : Value}, R w I ρ x v F → x.at q = some (.own z n cs) → x.at r = some (.own z' n' cs') →
    walk w v q = some vq → walk w v r = some vr → vq.ownBlock = some b → vr.ownBlock = some b → q = r
  | [], [], _, _, _, _, _, _, _, _, _, _, _, _, _, _, _, _, _, _ => rfl
  | [], k :: r, x, v, F, z, n, z', n', cs, cs', vq, vr, h, hq, hr, wq, wr, bq, br => by
    obtain ⟨c, hk, hc⟩ := AV.at_cons hr
    simp only [AV.at, Option.some.injEq] at hq
    simp only [walk, Option.some.injEq] at wq
    subst hq wq
    have hlt : k < (AV.own z n cs).kids.length := (List.getElem?_eq_some_iff.1 hk).1
    obtain ⟨Fs, h1, h2, h3, h4⟩ := h.kids (by intro e; rw [e] at hlt; simp at hlt)
    obtain ⟨u, hu, hRu⟩ := h1 k c hk
    simp only [walk, hu] at wr
    obtain ⟨vy, Fy, hw, hRy, hFy, _⟩ := R.focus r hRu hc
    rw [hw] at wr
    cases wr
    exact absurd (hFy b (hRy.own_block b br)) (h4 z n cs rfl b bq k hlt)
  | j :: q, [], x, v, F, z, n, z', n', cs, cs', vq, vr, h, hq, hr, wq, wr, bq, br => by
    obtain ⟨c, hk, hc⟩ := AV.at_cons hq
    simp only [AV.at, Option.some.injEq] at hr
    simp only [walk, Option.some.injEq] at wr
    subst hr wr
    have hlt : j < (AV.own z' n' cs').kids.length := (List.getElem?_eq_some_iff.1 hk).1
    obtain ⟨Fs, h1, h2, h3, h4⟩ := h.kids (by intro e; rw [e] at hlt; simp at hlt)
    obtain ⟨u, hu, hRu⟩ := h1 j c hk
    simp only [walk, hu] at wq
    obtain ⟨vy, Fy, hw, hRy, hFy, _⟩ := R.focus q hRu hc
    rw [hw] at wq
    cases wq
    exact absurd (hFy b (hRy.own_block b bq)) (h4 z' n' cs' rfl b br j hlt)
  | j :: q, k :: r, x, v, F, z, n, z', n', cs, cs', vq, vr, h, hq, hr, wq, wr, bq, br => by
    obtain ⟨c, hj, hc⟩ := AV.at_cons hq
    obtain ⟨d, hk, hd⟩ := AV.at_cons hr
    have hjl : j < x.kids.length := (List.getElem?_eq_some_iff.1 hj).1
    have hkl : k < x.kids.length := (List.getElem?_eq_some_iff.1 hk).1
    obtain ⟨Fs, h1, h2, h3, h4⟩ := h.kids (by intro e; rw [e] at hjl; simp at hjl)
    obtain ⟨u, hu, hRu⟩ := h1 j c hj
    obtain ⟨u', hu', hRu'⟩ := h1 k d hk
    simp only [walk, hu] at wq
    simp only [walk, hu'] at wr
    by_cases hjk : j = k
    · subst hjk
      rw [hj] at hk; cases hk
      rw [hu] at hu'; cases hu'
      rw [R.node_inj q r hRu hc hd wq wr bq br]
    · exfalso
      obtain ⟨vy, Fy, hw, hRy, hFy, _⟩ := R.focus q hRu hc
      obtain ⟨vy', Fy', hw', hRy', hFy', _⟩ := R.focus r hRu' hd
      rw [hw] at wq; cases wq
      rw [hw'] at wr; cases wr
      exact hjk (h2 j k b hjl hkl (hFy b (hRy.own_block b bq)) (hFy' b (hRy'.own_block b br)))

theorem AV.setAt_self : ∀ (q : List Nat) {x y : AV}, x.at q = some y → x.setAt q y = x
  | [], x, y, h => by simp [AV.at] at h; simp [AV.setAt, h]
  | k :: q, x, y, h => by
    obtain ⟨c, hk, hc⟩ := AV.at_cons h
    simp only [AV.setAt, hk, AV.setAt_self q hc]
    have : ∀ (l : List AV), l[k]? = some c → l.set k c = l := by
      intro l hl
      apply List.ext_getElem?
      intro j
      by_cases hjk : k = j
      · subst hjk
        have hlt : k < l.length := (List.getElem?_eq_some_iff.1 hl).1
        rw [List.getElem?_set_self hlt, hl]
      · rw [List.getElem?_set_ne hjk]
    cases x <;> simp [AV.kids] at hk <;> simp [AV.setKid, this _ hk]

theorem walk_app (w : World) : ∀ (p : List Nat) (v : Value) (r : List Nat), walk w v (p ++ r) = (walk w v p).bind fun u => walk w u r
  | [], v, r => rfl
  | k :: p, v, r => by
    simp only [List.cons_append, walk]
    cases child w v k with
    | none => rfl
    | some u => exact walk_app w p u r

theorem AV.at_app : ∀ (p : List Nat) (x : AV) (r : List Nat), x.at (p ++ r) = (x.at p).bind fun y => y.at r
  | [], x, r => rfl
  | k :: p, x, r => by
    simp only [List.cons_append, AV.at]
    cases x.kids[k]? with
    | none => rfl
    | some u => exact AV.at_app p u r

/-- In block 'b' cells beyond 'M' have changed, elsewhere nothing. -/
structure Spare (w w' : World) (b M : Nat) : Prop where
  other : ∀ c, c < w.heap.size → c ≠ b → w'.heap[c]? = w.heap[c]?
  here : ∃ (arr arr' : Array Value) (e : TypeId), w.heap[b]? = some (.cells arr e (0, 0)) ∧ w'.heap[b]? = some (.cells arr' e (0, 0)) ∧ arr'.size = arr.size ∧ arr'.toList.take M = arr.toList.take M

theorem Spare.row {b M : Nat} (s : Spare w w' b M) {e : TypeId} {z n : Nat} {v : Value} {us : List Value} (h : w.ownsRow 0 e z v n us) (hn : v.ownBlock = some b → n * z ≤ M) : w'.ownsRow 0 e z v n us := by
  by_cases hb : v.ownBlock = some b
  · obtain ⟨arr, arr', e1, h1, h2, h3, h4⟩ := s.here
    obtain ⟨hu, hh⟩ := h
    rcases hh with ⟨rfl, rfl⟩ | ⟨g, cap, cur, rfl, hg, hc, r1, r2, r3, r4⟩
    · simp [Value.ownBlock] at hb
    · simp only [Value.ownBlock, Option.some.injEq] at hb
      subst hb
      rw [h1] at hc
      cases hc
      refine ⟨hu, .inr ⟨g, cap, arr', rfl, hg, h2, r1, r2, by omega, ?_⟩⟩
      rw [← r4]
      have := congrArg (List.take (n * z)) h4
      rwa [List.take_take, List.take_take, Nat.min_eq_left (hn rfl)] at this
  · exact ownsRow_of_block h fun c hc => s.other c (h.lt c hc).2 fun e => hb (e ▸ hc)

/-- A tree whose row in block 'b' ends where the change begins, or ahead of it. -/
theorem R.spare {b M : Nat} (s : Spare w w' b M) (hI : ∀ c, I c → c < w.heap.size ∧ c ≠ b) (hρ : ∀ x v, ρ x v → ρ' x v) {x : AV} {v : Value} {F : BSet} (h : R w I ρ x v F) {q : List Nat} {z n : Nat} {cs : List AV} {vy : Value}
    (hat : x.at q = some (.own z n cs)) (hw : walk w v q = some vy) (hb : vy.ownBlock = some b) (hn : n * z ≤ M) :
    R w' I ρ' x v F ∧ ∀ r y, x.at r = some y → walk w' v r = walk w v r := by
  obtain ⟨vy', Fy, hw', hRy, hFy, wk, rebuild⟩ := R.focus q h hat
  rw [hw] at hw'
  cases hw'
  have hbF : Fy b := hRy.own_block b hb
  have hlt := h.lt
  have same : ∀ c, F c → c ≠ b → w'.heap[c]? = w.heap[c]? := fun c hc hne => s.other c (hlt c hc) hne
  have hRy0 := hRy
  cases hRy with
  | ref hx => simp [AV.isRef] at hx
  | @own _ _ _ _ e us Fs _ ho hl h1 hr hd hbb hF =>
    have ho' := s.row ho fun _ => hn
    have hne : ∀ k c, k < cs.length → Fs k c → c ≠ b := fun k c hk hc e => hbb k c hk hc (e ▸ hb)
    have hFs : ∀ k c, k < cs.length → Fs k c → F c := fun k c hk hc => hFy c ((hF c).2 (.inr ⟨k, hk, hc⟩))
    have hnew : R w' I ρ' (.own z n cs) vy Fy := by
      refine .own ho' hl h1 (fun k x u hx hu => ?_) hd hbb hF
      have hk : k < cs.length := (List.getElem?_eq_some_iff.1 hx).1
      exact (hr k x u hx hu).frame (fun c hc => s.other c (hI c hc).1 (hI c hc).2) (fun _ h => h) hρ fun c hc => same c (hFs k c hk hc) (hne k c hk hc)
    constructor
    · obtain ⟨F', hR', hF'⟩ := rebuild w' I ρ' _ Fy ⟨fun c hc => s.other c (hI c hc).1 (hI c hc).2, fun c hc hn => same c hc fun e => hn (e ▸ hbF), fun _ h => h, hρ⟩ hnew fun c hc _ => hc
      rw [AV.setAt_self q hat] at hR'
      refine hR'.congrF fun c => ?_
      rw [hF' c]
      constructor
      · rintro (⟨h, _⟩ | h)
        · exact h
        · exact hFy c h
      · intro h
        by_cases hc : Fy c
        · exact .inr hc
        · exact .inl ⟨h, hc⟩
    · obtain ⟨w1, w2⟩ := wk w' fun c hc hn => same c hc fun e => hn (e ▸ hbF)
      intro r y hr'
      rcases w2 r y hr' with ⟨r', rfl⟩ | h
      · rw [walk_app, walk_app, w1, hw]
        simp only [Option.bind_some]
        cases r' with
        | nil => rfl
        | cons k r' =>
          rw [AV.at_app, hat] at hr'
          obtain ⟨c, hk, hc⟩ := AV.at_cons (x := .own z n cs) hr'
          simp only [AV.kids] at hk
          have hkl : k < cs.length := (List.getElem?_eq_some_iff.1 hk).1
          have hu : us[k]? = some us[k] := List.getElem?_eq_getElem (hl ▸ hkl)
          have := R.walk_frame (w' := w') r' (hr k c _ hk hu) hc fun c hc => same c (hFs k c hkl hc) (hne k c hkl hc)
          simp [walk, ownsRow_child ho hu, ownsRow_child ho' hu, this]
      · exact h
end
end Go.Own
