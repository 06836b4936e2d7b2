import Derived.Test.YteohndfkdfehcaaE6
namespace Go.Own
open Go

/-- Outside of 'U' all that was there is as it was. -/
structure Fr (w w' : World) (U : BSet) : Prop where
  os : w'.os = w.os
  tape : w'.tape = w.tape
  output : w'.output = w.output
  size : w.heap.size ≤ w'.heap.size
  block : ∀ b, b < w.heap.size → ¬ U b → w'.heap[b]? = w.heap[b]?
  fz : ∀ a, w'.frozen? a = w.frozen? a

theorem Fr.refl (w : World) (U : BSet) : Fr w w U := ⟨rfl, rfl, rfl, Nat.le_refl _, fun _ _ _ => rfl, fun _ => rfl⟩
theorem Fr.mono {w w' : World} {U U' : BSet} (h : Fr w w' U) (hU : ∀ b, b < w.heap.size → U b → U' b) : Fr w w' U' := ⟨h.os, h.tape, h.output, h.size, fun b hb hn => h.block b hb fun hu => hn (hU b hb hu), h.fz⟩
theorem Fr.trans {w w1 w2 : World} {U U1 : BSet} (h : Fr w w1 U) (h1 : Fr w1 w2 U1) (hU : ∀ b, b < w.heap.size → U1 b → U b) : Fr w w2 U :=
  ⟨h1.os.trans h.os, h1.tape.trans h.tape, h1.output.trans h.output, Nat.le_trans h.size h1.size, fun b hb hn => (h1.block b (Nat.lt_of_lt_of_le hb h.size) fun hu => hn (hU b hb hu)).trans (h.block b hb hn), fun a => (h1.fz a).trans (h.fz a)⟩
theorem alloc_old (w : World) (o : Obj) (k : Nat) (h : k < w.heap.size) : (w.alloc o).heap[k]? = w.heap[k]? := by
  show (w.heap.push o)[k]? = _
  rw [Array.getElem?_push, if_neg (by omega)]
theorem alloc_new (w : World) (o : Obj) : (w.alloc o).heap[w.heap.size]? = some o := by
  show (w.heap.push o)[w.heap.size]? = _
  simp
theorem fz_alloc (w : World) (arr : Array Value) (t : TypeId) (a : Addr) : (w.alloc (.cells arr t (0, 0))).frozen? a = w.frozen? a := by
  unfold World.frozen?
  by_cases h : a.block = w.heap.size
  · rw [h, alloc_new]
    have : w.heap[w.heap.size]? = none := by simp
    rw [this]
    simp
  · by_cases h2 : a.block < w.heap.size
    · rw [alloc_old w _ _ h2]
    · have h3 : (w.alloc (.cells arr t (0, 0))).heap[a.block]? = none := by
        show (w.heap.push _)[a.block]? = _
        rw [Array.getElem?_eq_none]
        simp; omega
      have h4 : w.heap[a.block]? = none := Array.getElem?_eq_none (by omega)
      rw [h3, h4]
theorem fz_setRow (w : World) (g : Nat) (cs : Array Value) (a : Addr) : (w.setRow g cs).frozen? a = w.frozen? a := by
  unfold World.frozen? World.setRow
  simp only [Array.getElem?_modify]
  by_cases h : g = a.block
  · subst h
    rw [if_pos rfl]
    cases hh : w.heap[a.block]? with
    | none => rfl
    | some o => cases o <;> rfl
  · rw [if_neg h]
theorem Fr.alloc (w : World) (o : Obj) (U : BSet) (ho : ∃ arr e, o = .cells arr e (0, 0)) : Fr w (w.alloc o) U := by
  refine ⟨rfl, rfl, rfl, by simp, fun b hb _ => alloc_old w o b hb, fun a => ?_⟩
  obtain ⟨arr, e, rfl⟩ := ho
  exact fz_alloc w arr e a
/-- Owned blocks are plain. -/
theorem R.plainF {w : World} {I : BSet} {ρ : AV → Value → Prop} {x : AV} {v : Value} {F : BSet} (h : R w I ρ x v F) : ∀ c, F c → ∃ arr e, w.heap[c]? = some (.cells arr e (0, 0)) := by
  induction h with
  | lit _ hF | nils hF | dead hF | ref _ _ hF | imm0 hF | imm hF | iptr hF | clo hF => exact fun c hc => absurd hc (hF c)
  | own ho hl h1 hr hd hb hF ih =>
    intro c hc
    rcases (hF c).1 hc with h | ⟨k, hk, h⟩
    · obtain ⟨_, hh⟩ := ho
      rcases hh with ⟨rfl, _⟩ | ⟨b, cap, cur, rfl, _, r2, _⟩
      · simp [Value.ownBlock] at h
      · simp only [Value.ownBlock, Option.some.injEq] at h
        subst h
        exact ⟨_, _, r2⟩
    · exact ih k _ _ (List.getElem?_eq_getElem hk) (List.getElem?_eq_getElem (hl ▸ hk)) c h
  | obj ho hl h1 hr hd hb hF ih =>
    intro c hc
    rcases (hF c).1 hc with rfl | ⟨k, hk, h⟩
    · exact ⟨_, _, ho⟩
    · exact ih k _ _ (List.getElem?_eq_getElem hk) (Array.getElem?_eq_getElem (hl ▸ hk)) c h
  | agg hl h1 hr hd hF ih =>
    intro c hc
    obtain ⟨k, hk, h⟩ := (hF c).1 hc
    exact ih k _ _ (List.getElem?_eq_getElem hk) (Array.getElem?_eq_getElem (hl ▸ hk)) c h
  | tup hl hr hd hF ih =>
    intro c hc
    obtain ⟨k, hk, h⟩ := (hF c).1 hc
    exact ih k _ _ (List.getElem?_eq_getElem hk) (Array.getElem?_eq_getElem (hl ▸ hk)) c h
theorem Fr.drew {w w' : World} {U : BSet} (h : Fr w w' U) : Fr w w'.drew U := ⟨h.os, h.tape, h.output, h.size, h.block, h.fz⟩

section
variable {w : World} {I : BSet} {T : Array Value} {g : Gst} {Fs : Nat → BSet}

theorem SR.ltF (h : SR w I T g Fs) : ∀ t c, Fs t c → c < w.heap.size := by
  intro t c hc
  cases hx : g t with
  | none => exact absurd hc (h.non t hx c)
  | some y => obtain ⟨u, _, hRy⟩ := h.rel t y hx; exact hRy.lt c hc

theorem SR.world (h : SR w I T g Fs) {w' : World} (hF : ∀ t c, Fs t c → w'.heap[c]? = w.heap[c]?) (hI : ∀ c, I c → w'.heap[c]? = w.heap[c]?) (hsz : w.heap.size ≤ w'.heap.size) : SR w' I T g Fs :=
  ⟨fun t x hx => by
    obtain ⟨v, hv, hR⟩ := h.rel t x hx
    exact ⟨v, hv, h.frameT (fun _ _ => rfl) hF hI (fun _ h => h) (fun _ _ h => h) hR fun c hc => hF t c hc⟩,
   h.non, h.dis, h.imm, fun c hc => Nat.lt_of_lt_of_le (h.lt c hc) hsz, h.pok⟩

theorem SR.alloc (h : SR w I T g Fs) (o : Obj) : SR (w.alloc o) I T g Fs :=
  h.world (fun t c hc => alloc_old w o c (h.ltF t c hc)) (fun c hc => alloc_old w o c (h.lt c hc)) (by simp)

/-- A fresh slot takes a value, in the world as it is. -/
theorem SR.put0 (h : SR w I T g Fs) {d : Nat} {x : AV} {v : Value} {F : BSet} (hd : g d = none) (hdT : d < T.size)
    (hR : RT w I (RG w T g) x v F) (hnew : ∀ t c, F c → ¬ Fs t c) (hnI : ∀ c, F c → ¬ I c)
    (hp : ∀ z p n m new, x = .pend z p n m new → ∀ t z' n' m' new', g t ≠ some (.pend z' p n' m' new')) :
    SR w I (T.setIfInBounds d v) (upd g d x) (updF Fs d F) := by
  have hT : ∀ t, g t ≠ none → (T.setIfInBounds d v)[t]? = T[t]? := by
    intro t ht
    rw [Array.getElem?_setIfInBounds_ne]
    rintro rfl; exact ht hd
  refine ⟨?_, ?_, ?_, ?_, h.lt, ?_⟩
  · intro t y hy
    unfold upd at hy
    split at hy
    · rename_i htd
      subst htd
      cases hy
      exact ⟨v, by simp [hdT], by simpa [updF] using h.frameT hT (fun _ _ _ => rfl) (fun _ _ => rfl) (fun _ h => h) (upd_mono hd) hR fun _ _ => rfl⟩
    · rename_i htd
      obtain ⟨u, hu, hRy⟩ := h.rel t y hy
      exact ⟨u, by rw [hT t (by rw [hy]; simp)]; exact hu, by simpa [updF, htd] using h.frameT hT (fun _ _ _ => rfl) (fun _ _ => rfl) (fun _ h => h) (upd_mono hd) hRy fun _ _ => rfl⟩
  · intro t ht c
    unfold upd at ht
    split at ht
    · cases ht
    · rename_i htd; simpa [updF, htd] using h.non t ht c
  · intro t t' c hc hc'
    by_cases h1 : t = d <;> by_cases h2 : t' = d <;> simp [updF, h1, h2] at hc hc'
    · rw [h1, h2]
    · exact absurd hc' (hnew t' c hc)
    · exact absurd hc (hnew t c hc')
    · exact h.dis t t' c hc hc'
  · intro t c hc hi
    by_cases h1 : t = d <;> simp [updF, h1] at hc
    · exact hnI c hc hi
    · exact h.imm t c hc hi
  · intro t t' z p n m new z' n' m' new' h1 h2
    unfold upd at h1 h2
    split at h1 <;> split at h2
    · rename_i a b; rw [a, b]
    · cases h1; exact absurd h2 (hp z p n m new rfl t' z' n' m' new')
    · cases h2; exact absurd h1 (hp z' p n' m' new' rfl t z n m new)
    · exact h.pok _ _ _ _ _ _ _ _ _ _ _ h1 h2
end

/-! ### Operations that make one block -/
def boxCells : AV → Option (List AV)
  | .agg cs => some cs
  | .lit v => some [.lit v]
  | .nils => some [.nils]
  | .imm z n cs => some [.imm z n cs]
  | .iptr cs => some [.iptr cs]
  | .ptr p k => some [.ptr p k]
  | .brw z p n => some [.brw z p n]
  | .sub z p l n => some [.sub z p l n]
  | .clo f a b => some [.clo f a b]
  | _ => none

theorem R.boxCells {w : World} {I : BSet} {ρ : AV → Value → Prop} {y : AV} {v : Value} {F : BSet} (h : R w I ρ y v F) (hF : ∀ c, ¬ F c) (hρ : ∀ x v, x.isRef = true → ρ x v → v.oneCell' = true) {cs : List AV} (hc : boxCells y = some cs) :
    cs.length = v.cells.size ∧ (∀ (k : Nat) (u : Value), v.cells[k]? = some u → u.oneCell' = true) ∧ (∀ (k : Nat) (x : AV) (u : Value), cs[k]? = some x → v.cells[k]? = some u → R w I ρ x u E0) := by
  have one : ∀ {y : AV}, R w I ρ y v F → v.oneCell' = true → [y].length = v.cells.size ∧ (∀ (k : Nat) (u : Value), v.cells[k]? = some u → u.oneCell' = true) ∧ (∀ (k : Nat) (x : AV) (u : Value), [y][k]? = some x → v.cells[k]? = some u → R w I ρ x u E0) := by
    intro y h h1
    have hcells : v.cells = #[v] := by cases v <;> first | rfl | (simp [Value.oneCell'] at h1)
    refine ⟨by simp [hcells], fun k u hu => ?_, fun k x u hx hu => ?_⟩
    · rw [hcells] at hu
      cases k with
      | zero => simp at hu; subst hu; exact h1
      | succ k => simp at hu
    rw [hcells] at hu
    cases k with
    | zero => simp at hx hu; subst hx hu; exact h.empty hF
    | succ k => simp at hx
  cases y <;> simp only [Go.Own.boxCells, Option.some.injEq, reduceCtorEq] at hc
  case agg l =>
    subst hc
    obtain ⟨vs, rfl, hl, h1, hr⟩ := h.inv_agg hF
    exact ⟨hl, h1, hr⟩
  case lit a => subst hc; exact one h (by obtain ⟨rfl, h1⟩ := h.inv_lit; exact h1)
  case nils => subst hc; exact one h (by rw [h.inv_nils]; rfl)
  case imm z n l => subst hc; exact one h (by obtain ⟨a, cap, rfl, _⟩ := h.inv_imm; rfl)
  case iptr l => subst hc; exact one h (by obtain ⟨ad, us, rfl, _⟩ := h.inv_iptr; rfl)
  case ptr p k => subst hc; exact one h (hρ _ _ rfl h.inv_ptr)
  case brw z p n => subst hc; exact one h (hρ _ _ rfl h.inv_brw)
  case sub z p l n => subst hc; exact one h (hρ _ _ rfl h.inv_sub)
  case clo f a b =>
    subst hc
    refine one h ?_
    cases h with
    | clo => rfl
    | ref hx => simp [AV.isRef] at hx

theorem RG.oneCell {w : World} {T : Array Value} {g : Gst} {x : AV} {v : Value} (hx : x.isRef = true) (h : RG w T g x v) : v.oneCell' = true := by
  obtain ⟨h, _⟩ := h
  cases x <;> simp [AV.isRef] at hx
  case ptr p k => obtain ⟨_, _, _, _, rfl⟩ := h; rfl
  case brw z p n => obtain ⟨_, _, _, _, rfl, _⟩ := h; rfl
  case sub z p lo n => obtain ⟨_, _, _, _, _, _, rfl, _⟩ := h; rfl

/-- The cells of a list of parts, in order. -/
def boxAll : List AV → Option (List AV)
  | [] => some []
  | y :: ys =>
    match boxCells y, boxAll ys with
    | some a, some b => some (a ++ b)
    | _, _ => none

def opds (g : Gst) : List Operand → Option (List AV)
  | [] => some []
  | x :: xs =>
    match opd g x, opds g xs with
    | some y, some ys => some (y :: ys)
    | _, _ => none

/-- A literal's parts: field by field into the zero value. -/
def fillAV (place : Nat → Option (Nat × Nat)) (cells : List AV) : List (Nat × List AV) → Option (List AV)
  | [] => some cells
  | (i, c) :: rest =>
    match place i with
    | none => none
    | some (off, size) => if c.length = size ∧ off + c.length ≤ cells.length then fillAV place (cells.take off ++ c ++ cells.drop (off + c.length)) rest else none

def partsAV (g : Gst) : List (Nat × Operand) → Option (List (Nat × List AV))
  | [] => some []
  | (i, x) :: xs =>
    match opd g x, partsAV g xs with
    | some y, some ys => (boxCells y).map fun c => (i, c) :: ys
    | _, _ => none

def structT (P : Program) (t : TypeId) (pl : List (Nat × Nat)) : Bool :=
  match P.underlying t with
  | some (.struct fs) => fs.toList.map (fun f => (f.offset, (P.info? f.type).map (·.size))) == pl.map fun (a, b) => (a, some b)
  | _ => false

inductive PS2 (P : Program) (g : Gst) : Op → TypeId → AV → Prop
  | box {e ty : TypeId} {x : Operand} {y : AV} {cs : List AV} (hx : opd g x = some y) (hc : boxCells y = some cs) : PS2 P g (.box e x) ty (.obj cs)
  | alloc {e ty : TypeId} {z : Value} (hz : (P.info? e).bind (·.zero) = some z) (h1 : z.cells.all Value.oneCell' = true) : PS2 P g (.alloc e) ty (.obj (z.cells.toList.map ofCell))
  | buildSlice {t e ty : TypeId} {z : Nat} {parts : Array (Nat × Operand)} {xs : List Operand} {ys : List AV} {cs : List AV} (ht : slT P t e z = true)
      (hp : parts.toList = xs.mapIdx (fun i x => (i, x))) (hx : opds g xs = some ys) (hz : ∀ y ∈ ys, ∃ c, boxCells y = some c ∧ c.length = z) (hc : boxAll ys = some cs) (hb : xs.length * z ≤ 16777216) (hn : xs.length ≤ 16777216) (hzero : xs.length * z = 0 ∨ ∃ v, (P.info? e).bind (·.zero) = some v ∧ v.cells.size = z) :
      PS2 P g (.buildSlice t xs.length parts) ty (.own z xs.length cs)
  | makeSlice {t e ty : TypeId} {x y : Operand} {z n b : Nat} {k1 k2 : IntKind} {zv : Value} (ht : slT P t e z = true) (hx : opd g x = some (.lit (.int k1 (n : Int)))) (hy : opd g y = some (.lit (.int k2 (n : Int))))
      (hzero : (P.info? e).bind (·.zero) = some zv) (h1 : zv.cells.all Value.oneCell' = true) (hzs : zv.cells.size = z) (hb : (P.info? e).map (·.bytes) = some b) (hn : n * b ≤ 140737488355328) (hn2 : n ≤ 4611686018427387904) :
      PS2 P g (.makeSlice t x y) ty (.own z n (List.replicate n (zv.cells.toList.map ofCell)).flatten)

/-- A struct literal: it makes no block. -/
inductive PS3 (P : Program) (g : Gst) : Op → TypeId → AV → Prop
  | build {t ty : TypeId} {parts : Array (Nat × Operand)} {pl : List (Nat × Nat)} {zv : Value} {ps : List (Nat × List AV)} {cs : List AV} (ht : structT P t pl = true) (hz : (P.info? t).bind (·.zero) = some zv) (h1 : zv.cells.all Value.oneCell' = true)
      (hp : partsAV g parts.toList = some ps) (hc : fillAV (fun i => pl[i]?) (zv.cells.toList.map ofCell) ps = some cs) : PS3 P g (.build t parts) ty (.agg cs)
  | makeFunc {fn : Fn} {first caps : Array Operand} {ty : TypeId} {a b : List AV} (ha : opds g first.toList = some a) (hb : opds g caps.toList = some b) : PS3 P g (.makeFunc fn first caps) ty (.clo fn a b)

section
variable {P : Program} {w : World} {I : BSet} {T : Array Value} {g : Gst} {Fs : Nat → BSet}

theorem opds_sound (h : SR w I T g Fs) {a : Act} (ha : a.tmps = T) : ∀ {xs : List Operand} {ys : List AV}, opds g xs = some ys → ys.length = xs.length ∧ ∀ (k : Nat) (y : AV) (x : Operand), ys[k]? = some y → xs[k]? = some x → R w I (RG w T g) y (a.eval x) E0
  | [], ys, hy => by simp only [opds, Option.some.injEq] at hy; subst hy; simp
  | x :: xs, ys, hy => by
    simp only [opds] at hy
    cases hx : opd g x with
    | none => simp [hx] at hy
    | some y =>
      cases hxs : opds g xs with
      | none => simp [hx, hxs] at hy
      | some ys' =>
        simp only [hx, hxs, Option.some.injEq] at hy
        subst hy
        obtain ⟨h1, h2⟩ := opds_sound h ha hxs
        refine ⟨by simp [h1], fun k y' x' hy' hx' => ?_⟩
        cases k with
        | zero => simp at hy' hx'; subst hy' hx'; exact opd_sound h hx ha
        | succ k => simp at hy' hx'; exact h2 k y' x' hy' hx'

/-- A new block behind the world: what was sound is sound. -/
theorem R.alloc (h : SR w I T g Fs) (o : Obj) {x : AV} {v : Value} {F : BSet} (hR : R w I (RG w T g) x v F) (hF : ∀ c, F c → c < w.heap.size) : R (w.alloc o) I (RG (w.alloc o) T g) x v F :=
  h.frame (fun _ _ => rfl) (fun t c hc => alloc_old w o c (h.ltF t c hc)) (fun c hc => alloc_old w o c (h.lt c hc)) (fun _ h => h) (fun _ _ h => h) hR fun c hc => alloc_old w o c (hF c hc)

theorem ofCells_sound {ρ : AV → Value → Prop} {vs : List Value} : ∀ (k : Nat) (x : AV) (u : Value), (vs.map ofCell)[k]? = some x → vs[k]? = some u → R w I ρ x u E0 := by
  intro k x u hx hu
  rw [List.getElem?_map, hu] at hx
  simp only [Option.map_some, Option.some.injEq] at hx
  subst hx
  exact ofCell_sound u

theorem R.objE0 {ρ : AV → Value → Prop} {cs : List AV} {b : Nat} {e : TypeId} {arr : Array Value} (ho : w.heap[b]? = some (.cells arr e (0, 0))) (hl : cs.length = arr.size) (h1 : ∀ (k : Nat) (u : Value), arr[k]? = some u → u.oneCell' = true)
    (hr : ∀ (k : Nat) (x : AV) (u : Value), cs[k]? = some x → arr[k]? = some u → R w I ρ x u E0) : R w I ρ (.obj cs) (.pointer (some ⟨b, 0, none⟩)) (fun c => c = b) :=
  .obj (Fs := fun _ => E0) ho hl h1 hr (fun _ _ _ _ _ h => h.elim) (fun _ _ h => h) (fun _ => ⟨fun h => .inl h, fun h => h.elim id fun ⟨_, _, h⟩ => h.elim⟩)

theorem R.ownE0 {ρ : AV → Value → Prop} {z n : Nat} {cs : List AV} {b cap : Nat} {e : TypeId} {arr : Array Value} (ho : w.heap[b]? = some (.cells arr e (0, 0))) (hn : n ≤ cap) (hc : cap ≤ maxLen) (hs : arr.size = cap * z) (hl : cs.length = n * z) (h1 : ∀ (k : Nat) (u : Value), arr[k]? = some u → u.oneCell' = true)
    (hr : ∀ (k : Nat) (x : AV) (u : Value), cs[k]? = some x → arr[k]? = some u → R w I ρ x u E0) : R w I ρ (.own z n cs) (.slice (some ⟨b, 0, none⟩) n cap) (fun c => c = b) := by
  have hle : n * z ≤ arr.size := by rw [hs]; exact Nat.mul_le_mul_right _ hn
  refine .own (e := e) (us := arr.toList.take (n * z)) (Fs := fun _ => E0) ⟨by simp; omega, .inr ⟨b, cap, arr, rfl, Nat.zero_le _, ho, hn, hc, hs, rfl⟩⟩ (by simp; omega) (fun k u hu => ?_) ?_ (fun _ _ _ _ _ h => h.elim) (fun _ _ _ h => h.elim) (fun c => ?_)
  · rw [List.getElem?_take] at hu
    split at hu
    · exact h1 k u (by simpa using hu)
    · cases hu
  · intro k x u hx hu
    rw [List.getElem?_take] at hu
    split at hu
    · exact hr k x u hx (by simpa using hu)
    · cases hu
  · simp only [Value.ownBlock, Option.some.injEq]
    exact ⟨fun h => .inl h.symm, fun h => h.elim Eq.symm fun ⟨_, _, h⟩ => h.elim⟩

theorem boxAll_sound {ρ : AV → Value → Prop} (hρ : ∀ x v, x.isRef = true → ρ x v → v.oneCell' = true) : ∀ {ys : List AV} {vs : List Value} {cs : List AV}, ys.length = vs.length → (∀ (k : Nat) (y : AV) (v : Value), ys[k]? = some y → vs[k]? = some v → R w I ρ y v E0) → boxAll ys = some cs →
    cs.length = (vs.flatMap fun v => v.cells.toList).length ∧ (∀ (k : Nat) (u : Value), (vs.flatMap fun v => v.cells.toList)[k]? = some u → u.oneCell' = true) ∧ ∀ (k : Nat) (x : AV) (u : Value), cs[k]? = some x → (vs.flatMap fun v => v.cells.toList)[k]? = some u → R w I ρ x u E0
  | [], vs, cs, hl, hr, hc => by
    cases vs with
    | nil => simp only [boxAll, Option.some.injEq] at hc; subst hc; simp
    | cons => simp at hl
  | y :: ys, vs, cs, hl, hr, hc => by
    cases vs with
    | nil => simp at hl
    | cons v vs =>
      simp only [boxAll] at hc
      cases ha : boxCells y with
      | none => simp [ha] at hc
      | some a =>
        cases hb : boxAll ys with
        | none => simp [ha, hb] at hc
        | some b =>
          simp only [ha, hb, Option.some.injEq] at hc
          subst hc
          obtain ⟨h1, h1c, h2⟩ := (hr 0 y v rfl rfl).boxCells (fun _ h => h) hρ ha
          obtain ⟨h3, h3c, h4⟩ := boxAll_sound hρ (by simpa using hl) (fun k y' v' hy hv => hr (k + 1) y' v' hy hv) hb
          refine ⟨by simp [h1, h3], fun k u hu => ?_, fun k x u hx hu => ?_⟩
          · simp only [List.flatMap_cons] at hu
            by_cases hk : k < v.cells.toList.length
            · rw [List.getElem?_append_left hk] at hu
              exact h1c k u (by simpa using hu)
            · rw [List.getElem?_append_right (by omega)] at hu
              exact h3c _ u hu
          simp only [List.flatMap_cons] at hu
          by_cases hk : k < a.length
          · rw [List.getElem?_append_left hk] at hx
            rw [List.getElem?_append_left (by simp; omega)] at hu
            exact h2 k x u hx (by simpa using hu)
          · rw [List.getElem?_append_right (by omega)] at hx
            rw [List.getElem?_append_right (by simp; omega)] at hu
            refine h4 (k - a.length) x u hx ?_
            rw [← hu]; simp [h1]
end
end Go.Own
