import Derived.Test.YteohndfkdfehcaaE29
namespace Go.Own
open Go

/-- A text is no longer than that. -/
def Sz (s : ByteArray) (n : Nat) : Prop := s.size ≤ n

theorem Sz.app {s u : ByteArray} {a b : Nat} (h : Sz s a) (h' : Sz u b) : Sz (s ++ u) (a + b) := by
  unfold Sz at *
  rw [ByteArray.size_append]; omega
theorem Sz.cut {s : ByteArray} {a : Nat} {m n : Int} (h : Sz s a) : Sz (cutS s m n) a := by
  unfold Sz cutS at *
  rw [ByteArray.size_extract]; omega
theorem Sz.nums {xs : List Int} : Sz (strOfNums xs) xs.length := by
  unfold Sz; rw [strOfNums_size]; exact Nat.le_refl _
theorem Sz.const {xs : Array UInt8} : Sz ⟨xs⟩ xs.size := Nat.le_refl _
theorem Sz.of {s : ByteArray} {n : Nat} (h : s.size ≤ n) : Sz s n := h
theorem Sz.self {s : ByteArray} : Sz s s.size := Nat.le_refl _
theorem Sz.ite {s u : ByteArray} {a b : Nat} {c : Prop} [Decidable c] (h : Sz s a) (h' : Sz u b) : Sz (if c then s else u) (max a b) := by
  unfold Sz at *
  split <;> omega

section
variable {P : Program} {g : Gst} {ty : TypeId} {a b : Operand} {t t2 : TypeId} {N : Rm} {ops : Array Oper} {K : Gst → Prop} {l : List Oper} {d : Nat} {pos : String} {after : Array Edge} {gd : Option (Nat × Bool)}

def litB : AV → Bool
  | .lit _ => true
  | _ => false

theorem Rd.tupL {p : Nat} {cs : List AV} (h : g p = some (.tup cs)) (hl : cs.all litB = true) : Rd g (.tmp p) (.tup cs) := by
  refine .tup h ?_
  apply List.ext_getElem?
  intro k
  rw [List.getElem?_mapIdx]
  cases hk : cs[k]? with
  | none => rfl
  | some x =>
    have := List.all_eq_true.1 hl x (List.mem_of_getElem? hk)
    cases x <;> simp [litB] at this
    rfl

theorem PS1.ext1 {p i : Nat} {cs : List AV} {v : Value} (hx : g p = some (.tup cs)) (hy : cs[i]? = some (.lit v)) : PS1 P g (.extract (.tmp p) i) ty (.lit v) :=
  .extr (cs := cs.mapIdx fun i x => refIn 1 (Place.push ⟨p, []⟩ i) x) (by simp [opd, hx, refTop, refIn]) (by simp [hy, refIn])

theorem W.condS {c : Operand} {x y : Code} {Φ : Exit → Gst → Prop} {b : Bool} (hc : Rd g c (.lit (.bool b))) (hT : b = true → W P N x g Φ) (hF : b = false → W P N y g Φ) : W P N (.cond c x y) g Φ := by
  cases b with
  | true => exact .condT hc.opd (hT rfl)
  | false => exact .condF hc.opd (hF rfl)

theorem RunL.notS {c : Bool} (hx : Rd g a (.lit (.bool c))) (hN : N.ok d = true) (hf : g d = none) (hg : Gd g ops gd) (hT : c = true → RunL P N ops l (upd g d (.lit (.bool false))) K) (hF : c = false → RunL P N ops l (upd g d (.lit (.bool true))) K) :
    RunL P N ops (⟨some d, .unOp .not t a, ty, pos, after, gd⟩ :: l) g K := by
  cases c with
  | true => exact .val (.notT hx) hN hf hg (hT rfl)
  | false => exact .val (.notF hx) hN hf hg (hF rfl)

/-- A Bool is moved: both ways. -/
theorem RunL.moveS {c : Bool} (hx : Rd g a (.lit (.bool c))) (hN : N.ok d = true) (hf : g d = none) (hg : Gd g ops gd) (hT : c = true → RunL P N ops l (upd g d (.lit (.bool true))) K) (hF : c = false → RunL P N ops l (upd g d (.lit (.bool false))) K) :
    RunL P N ops (⟨some d, .move a, ty, pos, after, gd⟩ :: l) g K :=
  .val (.move hx.opd) hN hf hg (.boolS hT hF)

theorem run_eqB {c e : Bool} (ht : P.underlying t = some .bool) (w : World) : (do eqGuard .eql t a b (.bool c) (.bool e); binOp .eql t (.bool c) (.bool e) : Sem Value).run P w = .ok (.bool (c == e)) w := by
  have h := run_equal_bool w t c e ht
  simp [eqGuard, binOp, h]
theorem run_neB {c e : Bool} (ht : P.underlying t = some .bool) (w : World) : (do eqGuard .neq t a b (.bool c) (.bool e); binOp .neq t (.bool c) (.bool e) : Sem Value).run P w = .ok (.bool (!(c == e))) w := by
  have h := run_equal_bool w t c e ht
  simp [eqGuard, binOp, h]

def boolT (P : Program) (t : TypeId) : Bool :=
  match P.underlying t with
  | some .bool => true
  | _ => false
theorem boolT_spec (h : boolT P t = true) : P.underlying t = some .bool := by
  unfold boolT at h
  split at h
  · assumption
  · cases h

def intT (P : Program) (t : TypeId) (k : IntKind) : Bool :=
  match P.underlying t with
  | some (.int k') => k' == k
  | _ => false
theorem intT_spec {k : IntKind} (h : intT P t k = true) : P.underlying t = some (.int k) := by
  unfold intT at h
  split at h
  · rename_i k' hk; rw [hk]; have : k' = k := by simpa using h
    rw [this]
  · cases h

theorem RunL.eqBS {c e : Bool} (hx : Rd g a (.lit (.bool c))) (hy : Rd g b (.lit (.bool e))) (ht : boolT P t = true) (hN : N.ok d = true) (hf : g d = none) (hg : Gd g ops gd) (hT : c = e → RunL P N ops l (upd g d (.lit (.bool true))) K) (hF : c ≠ e → RunL P N ops l (upd g d (.lit (.bool false))) K) :
    RunL P N ops (⟨some d, .binOp .eql t a b t2, ty, pos, after, gd⟩ :: l) g K := by
  by_cases h : c = e
  · refine .val (.bin hx.opd hy.opd rfl ?_) hN hf hg (hT h)
    intro w; rw [run_eqB (boolT_spec ht) w]; simp [h]
  · refine .val (.bin hx.opd hy.opd rfl ?_) hN hf hg (hF h)
    intro w; rw [run_eqB (boolT_spec ht) w]; simp [h]
theorem RunL.neBS {c e : Bool} (hx : Rd g a (.lit (.bool c))) (hy : Rd g b (.lit (.bool e))) (ht : boolT P t = true) (hN : N.ok d = true) (hf : g d = none) (hg : Gd g ops gd) (hT : c ≠ e → RunL P N ops l (upd g d (.lit (.bool true))) K) (hF : c = e → RunL P N ops l (upd g d (.lit (.bool false))) K) :
    RunL P N ops (⟨some d, .binOp .neq t a b t2, ty, pos, after, gd⟩ :: l) g K := by
  by_cases h : c = e
  · refine .val (.bin hx.opd hy.opd rfl ?_) hN hf hg (hF h)
    intro w; rw [run_neB (boolT_spec ht) w]; simp [h]
  · refine .val (.bin hx.opd hy.opd rfl ?_) hN hf hg (hT h)
    intro w; rw [run_neB (boolT_spec ht) w]; simp [h]

theorem PS1.eqBT {c e : Bool} (hx : Rd g a (.lit (.bool c))) (hy : Rd g b (.lit (.bool e))) (ht : boolT P t = true) (h : c = e) : PS1 P g (.binOp .eql t a b t2) ty (.lit (.bool true)) :=
  .bin hx.opd hy.opd rfl fun w => by rw [run_eqB (boolT_spec ht) w]; simp [h]
theorem PS1.neBF {c e : Bool} (hx : Rd g a (.lit (.bool c))) (hy : Rd g b (.lit (.bool e))) (ht : boolT P t = true) (h : c = e) : PS1 P g (.binOp .neq t a b t2) ty (.lit (.bool false)) :=
  .bin hx.opd hy.opd rfl fun w => by rw [run_neB (boolT_spec ht) w]; simp [h]

theorem PC.ez {xs : List Operand} {tys : Array TypeId} {f : FuncId} {ys : List AV} {outs : List (Option AV)} {res : AV} (hx : Opds g xs ys) (hcon : Con P f ys outs res) (hf : callT P f = true) (ho : noneB outs = true) (hr : NR res) :
    PC P g (.call { callee := .value (.func f), args := xs.toArray, argTypes := tys }) res := .easy hcon hf hx ho hr
theorem RunL.callZ {φ : Prop} {xs : List Operand} {tys : Array TypeId} {f : FuncId} {ys : List AV} {outs : List (Option AV)} {res : AV} (hx : Opds g xs ys) (hcon : Con P f ys outs res ∧ φ) (hc : callT P f = true) (ho : noneB outs = true) (hr : NR res) (hN : N.ok d = true) (hf : g d = none) (hg : Gd g ops gd)
    (hk : φ → RunL P N ops l (upd g d res) K) : RunL P N ops (⟨some d, .call { callee := .value (.func f), args := xs.toArray, argTypes := tys }, ty, pos, after, gd⟩ :: l) g K := .callF hcon hc hx ho hr hN hf hg hk

theorem PS1.convII {k k' : IntKind} {m : Int} (hx : Rd g a (.lit (.int k m))) (hs : intT P t k = true) (hd : intT P t2 k' = true) : PS1 P g (.convert t t2 a) ty (.lit (.int k' (k'.wrap m))) :=
  .conv hx.opd rfl fun w => by simp [convert, run_underlying (intT_spec hs), run_underlying (intT_spec hd), Conv.intToInt]
theorem PS1.convII' {k k' : IntKind} {m : Int} (hx : Rd g a (.lit (.int k m))) (hs : intT P t k = true) (hd : intT P t2 k' = true) (h : k'.wrap m = m) : PS1 P g (.convert t t2 a) ty (.lit (.int k' m)) := by
  have := PS1.convII (P := P) (ty := ty) hx hs hd; rwa [h] at this

/-- A loop: what holds at its head, with a number that falls. -/
theorem WL.induct {c : Code} {Φ : Exit → Gst → Prop} (Inv : Nat → Gst → Prop) {n : Nat} {g : Gst} (h0 : Inv n g) (hstep : ∀ n g, Inv n g → (∀ m g', m < n → Inv m g' → WL P N c g' Φ) → WL P N c g Φ) : WL P N c g Φ := by
  induction n using Nat.strongRecOn generalizing g with
  | _ n ih => exact hstep n g h0 fun m g' hm hi => ih m hm hi

theorem PS1.catZ {s u : ByteArray} {m n : Nat} (hx : Rd g a (.lit (.string s))) (hy : Rd g b (.lit (.string u))) (hs : Sz s m) (hu : Sz u n) (h : m + n ≤ 9223372036854775807) : PS1 P g (.binOp .add t a b t2) ty (.lit (.string (s ++ u))) :=
  .cat hx hy (Nat.le_trans (Nat.add_le_add hs hu) h)
theorem PS.rowP {e : TypeId} {vs : List Value} {parts : Array (Nat × Operand)} {nn : Nat} (hx : Lits g (parts.toList.map (·.2)) vs) (hp : parts.toList = (parts.toList.map (·.2)).mapIdx (fun i x => (i, x))) (hn : (parts.toList.map (·.2)).length = nn) (ht : slT P t e 1 = true) (hz : zeroT P e 1 = true) (hb : Nat.ble nn 1000 = true) :
    PS P g (.buildSlice t nn parts) ty (.own 1 nn (vs.map .lit)) := .row hx hp hn ht hz hb
inductive Bytes (g : Gst) : List Operand → List Int → Prop
  | nil : Bytes g [] []
  | cons {x : Operand} {v : Int} {xs : List Operand} {vs : List Int} (h : Rd g x (.lit (.int .u8 v))) (ht : Bytes g xs vs) : Bytes g (x :: xs) (v :: vs)

theorem Bytes.lits {xs : List Operand} {vs : List Int} (h : Bytes g xs vs) : Lits g xs (vs.map fun b => .int .u8 b) := by
  induction h with
  | nil => exact .nil
  | cons h _ ih => exact .cons h ih

def byteRow (xs : List Int) : List AV := xs.map fun b => .lit (.int .u8 b)

theorem PS.rowB {e : TypeId} {vs : List Int} {parts : Array (Nat × Operand)} {nn : Nat} (hx : Bytes g (parts.toList.map (·.2)) vs) (hp : parts.toList = (parts.toList.map (·.2)).mapIdx (fun i x => (i, x))) (hn : (parts.toList.map (·.2)).length = nn) (ht : slT P t e 1 = true) (hz : zeroT P e 1 = true) (hb : Nat.ble nn 1000 = true) :
    PS P g (.buildSlice t nn parts) ty (.own 1 nn (byteRow vs)) := by
  have := PS.row (ty := ty) hx.lits hp hn ht hz hb
  rw [List.map_map] at this
  exact this

theorem PS1.bytesB {p N' : Nat} {xs : List Int} (hx : g p = some (.own 1 N' (byteRow xs))) (hl : xs.length = N') (ht : bytT P t t2 = true) : PS1 P g (.convert t t2 (.tmp p)) ty (.lit (.string (strOfNums xs))) :=
  .bytes (z := 0) hx rfl (by simp [byteRow, hl]) ht rfl
end
end Go.Own
