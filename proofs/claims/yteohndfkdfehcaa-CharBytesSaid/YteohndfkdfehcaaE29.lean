import Derived.Test.YteohndfkdfehcaaE28
namespace Go.Own
open Go

def byteAt (s : ByteArray) (m : Int) : Int := ((s[m.toNat]?.getD 0).toNat : Nat)

theorem byteAt_range (s : ByteArray) (m : Int) : 0 ≤ byteAt s m ∧ byteAt s m ≤ 255 := by
  unfold byteAt
  have := (s[m.toNat]?.getD 0).toNat_lt
  omega

def cutS (s : ByteArray) (m n : Int) : ByteArray := s.extract m.toNat n.toNat

section
variable {P : Program} {N : Rm} {ops : Array Oper} {g : Gst} {K : Gst → Prop} {l : List Oper}
variable {d : Nat} {op : Op} {ty : TypeId} {pos : String} {after : Array Edge} {x : AV} {a b : Operand} {t t2 : TypeId} {k : IntKind} {m n : Int} {gd : Option (Nat × Bool)}

theorem PS1.atI {s : ByteArray} {i : Operand} (hx : Rd g a (.lit (.string s))) (hi : Rd g i (.lit (.int k m))) (ht : strT P t = true) (h : 0 ≤ m ∧ m < s.size) : PS1 P g (.index t a i) ty (.lit (.int .u8 (byteAt s m))) := by
  obtain ⟨j, rfl⟩ := Int.eq_ofNat_of_zero_le h.1
  have hj : j < s.size := by omega
  have hb : s[j]? = some s[j] := getElem?_pos s j hj
  have : byteAt s (j : Int) = (s[j].toNat : Nat) := by simp [byteAt, hb]
  rw [this]
  exact .idxStr hx.opd hi.opd ht hb

theorem RunL.atS {s : ByteArray} {i : Operand} (hx : Rd g a (.lit (.string s))) (hi : Rd g i (.lit (.int k m))) (ht : strT P t = true) (h : 0 ≤ m ∧ m < s.size) (hN : N.ok d = true) (hf : g d = none) (hg : Gd g ops gd)
    (hk : 0 ≤ byteAt s m ∧ byteAt s m ≤ 255 → RunL P N ops l (upd g d (.lit (.int .u8 (byteAt s m)))) K) : RunL P N ops (⟨some d, .index t a i, ty, pos, after, gd⟩ :: l) g K :=
  .val (.atI hx hi ht h) hN hf hg (hk (byteAt_range s m))

theorem PS1.slS {s : ByteArray} {lo hi : Operand} {k2 : IntKind} (hx : Rd g a (.lit (.string s))) (hl : Rd g lo (.lit (.int k m))) (hh : Rd g hi (.lit (.int k2 n))) (ht : strT P t = true) (h : 0 ≤ m ∧ m ≤ n ∧ n ≤ s.size) :
    PS1 P g (.slice t a (some lo) (some hi) none) ty (.lit (.string (cutS s m n))) := by
  obtain ⟨i, rfl⟩ := Int.eq_ofNat_of_zero_le h.1
  obtain ⟨j, rfl⟩ := Int.eq_ofNat_of_zero_le (show 0 ≤ n by omega)
  exact .sliceStr hx.opd ⟨_, hl.opd⟩ ⟨_, hh.opd⟩ ht (by omega) (by omega)

theorem PS1.slS0 {s : ByteArray} {hi : Operand} {k2 : IntKind} (hx : Rd g a (.lit (.string s))) (hh : Rd g hi (.lit (.int k2 n))) (ht : strT P t = true) (h : 0 ≤ n ∧ n ≤ s.size) :
    PS1 P g (.slice t a none (some hi) none) ty (.lit (.string (cutS s 0 n))) := by
  obtain ⟨j, rfl⟩ := Int.eq_ofNat_of_zero_le h.1
  exact .sliceStr (l := 0) hx.opd rfl ⟨_, hh.opd⟩ ht (by omega) (by omega)

theorem PS1.slS1 {s : ByteArray} {lo : Operand} (hx : Rd g a (.lit (.string s))) (hl : Rd g lo (.lit (.int k m))) (ht : strT P t = true) (h : 0 ≤ m ∧ m ≤ s.size) :
    PS1 P g (.slice t a (some lo) none none) ty (.lit (.string (cutS s m s.size))) := by
  obtain ⟨j, rfl⟩ := Int.eq_ofNat_of_zero_le h.1
  exact .sliceStr (h := s.size) hx.opd ⟨_, hl.opd⟩ rfl ht (by omega) (by omega)

/-- A call whose answer is a Bool: both ways. -/
theorem RunL.callB {c : Bool} (hp : PC P g op (.lit (.bool c))) (hN : N.ok d = true) (hf : g d = none) (hg : Gd g ops gd) (hT : c = true → RunL P N ops l (upd g d (.lit (.bool true))) K) (hF : c = false → RunL P N ops l (upd g d (.lit (.bool false))) K) :
    RunL P N ops (⟨some d, op, ty, pos, after, gd⟩ :: l) g K :=
  .call hp hN hf hg (.boolS hT hF)

theorem cutS_size {s : ByteArray} {m n : Int} (h : 0 ≤ m ∧ m ≤ n ∧ n ≤ s.size) : ((cutS s m n).size : Int) = n - m := by
  unfold cutS
  rw [ByteArray.size_extract]
  omega

/-- A text of bytes that stand in a row of their own. -/
theorem PS1.bytes {z p N' : Nat} {cs : List AV} {xs : List Int} (hx : g p = some (.own 1 N' cs)) (hcs : cs = xs.map fun b => .lit (.int .u8 b)) (hl : cs.length = N') (ht : bytT P t t2 = true) (_hz : z = 0) : PS1 P g (.convert t t2 (.tmp p)) ty (.lit (.string (strOfNums xs))) :=
  .convB (p := ⟨p, []⟩) (n := N') (N := N') (cs := cs) (by simp [opd, hx, refTop, refIn]) (by simp [atP, hx, AV.at]) (Nat.le_refl _) (by rw [List.take_of_length_le (by omega)]; exact hcs) ht

/-- A row built of plain values. -/
def zeroT (P : Program) (e : TypeId) (z : Nat) : Bool :=
  match (P.info? e).bind (·.zero) with
  | some v => v.cells.size == z
  | none => false

theorem zeroT_spec {e : TypeId} {z : Nat} (h : zeroT P e z = true) : ∃ v, (P.info? e).bind (·.zero) = some v ∧ v.cells.size = z := by
  unfold zeroT at h
  split at h
  · rename_i v hv; exact ⟨v, hv, by simpa using h⟩
  · cases h

inductive Lits (g : Gst) : List Operand → List Value → Prop
  | nil : Lits g [] []
  | cons {x : Operand} {v : Value} {xs : List Operand} {vs : List Value} (h : Rd g x (.lit v)) (ht : Lits g xs vs) : Lits g (x :: xs) (v :: vs)

theorem Lits.opds {xs : List Operand} {vs : List Value} (h : Lits g xs vs) : opds g xs = some (vs.map .lit) := by
  induction h with
  | nil => rfl
  | cons h _ ih => simp only [Own.opds, h.opd, ih]; rfl

theorem Lits.map {xs : List Operand} {vs : List Value} (h : Lits g xs vs) : xs.map (opd g) = vs.map fun v => some (.lit v) := by
  induction h with
  | nil => rfl
  | cons h _ ih => simp only [List.map_cons, h.opd, ih]

theorem PS.row {e : TypeId} {xs : List Operand} {vs : List Value} {parts : Array (Nat × Operand)} {nn : Nat} (hx : Lits g xs vs) (hp : parts.toList = xs.mapIdx (fun i x => (i, x))) (hn : xs.length = nn) (ht : slT P t e 1 = true) (hz : zeroT P e 1 = true) (hb : Nat.ble nn 1000 = true) :
    PS P g (.buildSlice t nn parts) ty (.own 1 nn (vs.map .lit)) := by
  subst hn
  have hb' := Nat.le_of_ble_eq_true hb
  refine .p2 (.buildSlice ht hp hx.opds (fun y hy => ?_) ?_ (by omega) (by omega) (.inr (zeroT_spec hz)))
  · obtain ⟨v, _, rfl⟩ := List.mem_map.1 hy
    exact ⟨[.lit v], rfl, rfl⟩
  · generalize vs = l
    induction l with
    | nil => rfl
    | cons v l ih => simp only [List.map_cons, boxAll, boxCells, ih]; rfl

theorem PS1.extL {xs : List Operand} {tys : Array TypeId} {f : FuncId} {vs : List Value} {v : Value} (hr : ∀ w, (callFunc f vs.toArray).run P w = .ok (.value v) w) (hv : v.oneCell' = true) (hx : Lits g xs vs) :
    PS1 P g (.call { callee := .value (.func f), args := xs.toArray, argTypes := tys }) ty (.lit v) :=
  .extF (vs := vs) (by simpa using hx.map) hv hr

/-- What is kept of a state. -/
inductive Pick (g : Gst) : List Nat → List (Nat × AV) → Prop
  | nil : Pick g [] []
  | some {s : Nat} {x : AV} {ss : List Nat} {l : List (Nat × AV)} (h : g s = some x) (hn : NR x) (ht : Pick g ss l) : Pick g (s :: ss) ((s, x) :: l)
  | none {s : Nat} {ss : List Nat} {l : List (Nat × AV)} (ht : Pick g ss l) : Pick g (s :: ss) l

theorem Pick.spec {g : Gst} {ss : List Nat} {l : List (Nat × AV)} (h : Pick g ss l) : ∀ t x, get l t = Option.some x → g t = Option.some x ∧ NR x := by
  induction h with
  | nil => intro t x hx; cases hx
  | @some s y ss l h hn _ ih =>
    intro t x hx
    simp only [get] at hx
    split at hx
    · rename_i e; subst e; cases hx; exact ⟨h, hn⟩
    · exact ih t x hx
  | none _ ih => exact ih

theorem Pick.wk {g : Gst} {ss : List Nat} {l : List (Nat × AV)} (h : Pick g ss l) : Wk g (get l) :=
  ⟨fun t x hx => ⟨x, (h.spec t x hx).1, .refl⟩, fun t x hx => .nr (h.spec t x hx).2, fun t z q n m new hx => by have := (h.spec t _ hx).2; cases this⟩

theorem W.trim {c : Code} {Φ : Exit → Gst → Prop} (ss : List Nat) {ls : List (Nat × AV)} (h : Pick g ss ls) (hw : W P N c (get ls) Φ) : W P N c g Φ := .weaken h.wk hw
theorem WL.trim {c : Code} {Φ : Exit → Gst → Prop} (ss : List Nat) {ls : List (Nat × AV)} (h : Pick g ss ls) (hw : WL P N c (get ls) Φ) : WL P N c g Φ := .weaken h.wk hw
theorem thenT {c : Code} {Φ Φ' : Exit → Gst → Prop} (ss : List Nat) {ls : List (Nat × AV)} (h : Pick g ss ls) (hw : W P N c (get ls) Φ) : thenP (fun g1 => W P N c g1 Φ) Φ' .normal g := .trim ss h hw
theorem RunL.gRow {nn : Nat} {parts : Array (Nat × Operand)} {ds : Option Nat} (h : RunL P N ops (⟨ds, .buildSlice t nn parts, ty, pos, after, gd⟩ :: l) g K) : RunL P N ops (⟨ds, .buildSlice t nn parts, ty, pos, after, gd⟩ :: l) g K := h
theorem thenD {c : Code} {Φ Φ' : Exit → Gst → Prop} (h : thenP (fun g1 => W P N c g1 Φ) Φ' .normal g) : thenP (fun g1 => W P N c g1 Φ) Φ' .normal g := h
theorem W.condD {o : Operand} {c c' : Code} {Φ : Exit → Gst → Prop} (h : W P N (.cond o c c') g Φ) : W P N (.cond o c c') g Φ := h
/-- A call, and a fact on what it hands back. -/
theorem RunL.callF {φ : Prop} {xs : List Operand} {tys : Array TypeId} {f : FuncId} {ys : List AV} {outs : List (Option AV)} {res : AV} (hcon : Con P f ys outs res ∧ φ) (hc : callT P f = true) (hx : Opds g xs ys) (ho : noneB outs = true) (hr : NR res) (hN : N.ok d = true) (hf : g d = none) (hg : Gd g ops gd)
    (hk : φ → RunL P N ops l (upd g d res) K) : RunL P N ops (⟨some d, .call { callee := .value (.func f), args := xs.toArray, argTypes := tys }, ty, pos, after, gd⟩ :: l) g K := .call (.easy hcon.1 hc hx ho hr) hN hf hg (hk hcon.2)
end
end Go.Own
