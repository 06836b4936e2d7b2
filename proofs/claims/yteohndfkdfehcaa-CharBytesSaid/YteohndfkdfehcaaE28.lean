import Derived.Test.YteohndfkdfehcaaE27
namespace Go.Own
open Go

/-- A state, said slot by slot. -/
def get : List (Nat × AV) → Gst
  | [], _ => none
  | (s, x) :: l, t => if t = s then some x else get l t

/-- What an operand reads. -/
inductive Rd (g : Gst) : Operand → AV → Prop
  | lit {t : Nat} {v : Value} (h : g t = some (.lit v)) : Rd g (.tmp t) (.lit v)
  | k {v : Value} (h : ofConst v = .lit v) : Rd g (.const v) (.lit v)
  | knil : Rd g (.const (.slice none 0 0)) .nils
  | kagg {v : Value} {cs : List AV} (h : ofConst v = .agg cs) : Rd g (.const v) (.agg cs)
  | nils {t : Nat} (h : g t = some .nils) : Rd g (.tmp t) .nils
  | imm {t z n : Nat} {cs : List AV} (h : g t = some (.imm z n cs)) : Rd g (.tmp t) (.imm z n cs)
  | own {t z n : Nat} {cs : List AV} (h : g t = some (.own z n cs)) : Rd g (.tmp t) (.brw z ⟨t, []⟩ n)
  | obj {t : Nat} {c : AV} {cs : List AV} (h : g t = some (.obj (c :: cs))) : Rd g (.tmp t) (.ptr ⟨t, []⟩ 0)
  | iptr {t : Nat} {cs : List AV} (h : g t = some (.iptr cs)) : Rd g (.tmp t) (.iptr cs)
  | ptr {t k : Nat} {p : Place} (h : g t = some (.ptr p k)) : Rd g (.tmp t) (.ptr p k)
  | brw {t z n : Nat} {p : Place} (h : g t = some (.brw z p n)) : Rd g (.tmp t) (.brw z p n)
  | sub {t z lo n : Nat} {p : Place} (h : g t = some (.sub z p lo n)) : Rd g (.tmp t) (.sub z p lo n)
  | pend {t z n m : Nat} {p : Place} {new : List AV} (h : g t = some (.pend z p n m new)) : Rd g (.tmp t) (.brw z ⟨t, []⟩ (n + m))
  | agg {t : Nat} {cs cs' : List AV} (h : g t = some (.agg cs)) (hc : (cs.mapIdx fun i x => refIn 1 (Place.push ⟨t, []⟩ i) x) = cs') : Rd g (.tmp t) (.agg cs')
  | tup {t : Nat} {cs cs' : List AV} (h : g t = some (.tup cs)) (hc : (cs.mapIdx fun i x => refIn 1 (Place.push ⟨t, []⟩ i) x) = cs') : Rd g (.tmp t) (.tup cs')
  | func {f : FuncId} : Rd g (.func f) (.clo (.func f) [] [])

theorem Rd.opd {g : Gst} {x : Operand} {y : AV} (h : Rd g x y) : opd g x = some y := by
  cases h with
  | agg h hc => subst hc; simp [Own.opd, h, refTop, refIn]
  | tup h hc => subst hc; simp [Own.opd, h, refTop, refIn]
  | k h => simp [Own.opd, h]
  | knil => rfl
  | kagg h => simp [Own.opd, h]
  | func => rfl
  | _ h => simp [Own.opd, h, refTop, refIn]

section
variable {P : Program} {N : Rm} {ops : Array Oper} {g : Gst} {K : Gst → Prop} {l : List Oper}

/-- The operations that are left. -/
def RunL (P : Program) (N : Rm) (ops : Array Oper) (l : List Oper) (g : Gst) (K : Gst → Prop) : Prop := ∀ i, ops.toList.drop i = l → RunK P N ops (List.range' i l.length) g K

theorem W.reg {id : Nat} {l : List Oper} {g : Gst} {Φ : Exit → Gst → Prop} (h : RunL P N l.toArray l g (Φ .normal)) : W P N (.region id l.toArray false) g Φ := by
  refine W.region ?_
  have := h 0 (by simp)
  rw [List.range_eq_range']
  simpa using this

theorem RunL.nil (h : K g) : RunL P N ops [] g K := fun _ _ => ⟨g, .nil, h⟩

theorem drop_cons {i : Nat} {o : Oper} (h : ops.toList.drop i = o :: l) : ops[i]? = some o ∧ ops.toList.drop (i + 1) = l := by
  have h1 : (ops.toList.drop i)[0]? = some o := by rw [h]; rfl
  rw [List.getElem?_drop] at h1
  refine ⟨by simpa using h1, ?_⟩
  rw [← List.drop_drop, h]
  rfl

variable {d : Nat} {op : Op} {ty : TypeId} {pos : String} {after : Array Edge} {x : AV}

theorem RunL.stepS {r : Option AV} {o : Oper} (hd : o.dst = some d) (hN : N.ok d = true) (hf : g d = none) (hs : StepOk P g ops o r) (hk : RunL P N ops l (putR g d r) K) : RunL P N ops (o :: l) g K := by
  intro i hi
  obtain ⟨h1, h2⟩ := drop_cons hi
  obtain ⟨g', hr, hK⟩ := hk (i + 1) h2
  exact ⟨g', .step h1 hd hf hN hs hr, hK⟩

/-- The slot is free, or what it holds may be forgotten. -/
inductive Free (g : Gst) (d : Nat) : Gst → Prop
  | new (h : g d = none) : Free g d g
  | old {y : AV} (h : g d = some y) (hl : leaf y = true) : Free g d (del g d)

/-- The guard of an operation. -/
inductive Gd (g : Gst) (ops : Array Oper) : Option (Nat × Bool) → Prop
  | none : Gd g ops none
  | yes {j t : Nat} {b : Bool} (h : (ops[j]?).bind (·.dst) = some t) (hg : g t = some (.lit (.bool b))) : Gd g ops (some (j, b))

variable {gd : Option (Nat × Bool)} {g1 : Gst}

theorem Gd.del {y : AV} (h : Gd g ops gd) (hd : g d = some y) (hb : ∀ b, y ≠ .lit (.bool b)) : Wanted (del g d) ops ⟨some d, op, ty, pos, after, gd⟩ true := by
  cases h with
  | none => rfl
  | @yes j t b h hg =>
    have : t ≠ d := by
      rintro rfl
      rw [hd] at hg; cases hg; exact hb _ rfl
    exact ⟨t, b, h, by simp only [Own.del, if_neg this, hg], by simp⟩

theorem Gd.wanted (h : Gd g ops gd) : Wanted g ops ⟨some d, op, ty, pos, after, gd⟩ true := by
  cases h with
  | none => rfl
  | @yes j t b h hg => exact ⟨t, b, h, hg, by simp⟩

theorem RunL.valQ (hp : PS P g op ty x) (hN : N.ok d = true) (hf : g d = none) (hw : Wanted g ops ⟨some d, op, ty, pos, after, gd⟩ true) (hk : RunL P N ops l (upd g d x) K) : RunL P N ops (⟨some d, op, ty, pos, after, gd⟩ :: l) g K :=
  .stepS rfl hN hf (r := some x) ⟨hw, .inl hp⟩ hk

theorem upd_del : upd (del g d) d x = upd g d x := by
  funext t
  unfold upd del
  split <;> rfl

/-- A value. -/
theorem RunL.val (hp : PS1 P g op ty x) (hN : N.ok d = true) (hf : g d = none) (hg : Gd g ops gd) (hk : RunL P N ops l (upd g d x) K) : RunL P N ops (⟨some d, op, ty, pos, after, gd⟩ :: l) g K :=
  .valQ (.p1 hp) hN hf hg.wanted hk

/-- A value, over one that may be forgotten. -/
theorem RunL.over {y : AV} (hp : PS1 P (del g d) op ty x) (hN : N.ok d = true) (hf : g d = some y) (hl : leaf y = true) (hk : RunL P N ops l (upd g d x) K) : RunL P N ops (⟨some d, op, ty, pos, after, none⟩ :: l) g K := by
  intro i hi
  obtain ⟨g', hr, hK⟩ := RunL.valQ (pos := pos) (after := after) (gd := Option.none) (.p1 hp) hN (by simp [del]) (Gd.wanted .none) (by rw [upd_del]; exact hk) i hi
  exact ⟨g', .drop hf hl hr, hK⟩

theorem RunL.valP (hp : PS P g op ty x) (hN : N.ok d = true) (hf : g d = none) (hg : Gd g ops gd) (hk : RunL P N ops l (upd g d x) K) : RunL P N ops (⟨some d, op, ty, pos, after, gd⟩ :: l) g K :=
  .valQ hp hN hf hg.wanted hk

theorem RunL.call (hp : PC P g op x) (hN : N.ok d = true) (hf : g d = none) (hg : Gd g ops gd) (hk : RunL P N ops l (upd g d x) K) : RunL P N ops (⟨some d, op, ty, pos, after, gd⟩ :: l) g K :=
  .stepS rfl hN hf (r := some x) ⟨hg.wanted, .inr hp⟩ hk

theorem RunL.pass {j t' : Nat} {b : Bool} (h : (ops[j]?).bind (·.dst) = some t') (hg : g t' = some (.lit (.bool (!b)))) (hN : N.ok d = true) (hf : g d = none) (hk : RunL P N ops l g K) : RunL P N ops (⟨some d, op, ty, pos, after, some (j, b)⟩ :: l) g K :=
  .stepS rfl hN hf (r := Option.none) ⟨t', !b, h, hg, by cases b <;> rfl⟩ hk

/-! ### Doors: which operation stands first? -/
variable {ds : Option Nat}
theorem RunL.gMove {a : Operand} (h : RunL P N ops (⟨ds, .move a, ty, pos, after, gd⟩ :: l) g K) : RunL P N ops (⟨ds, .move a, ty, pos, after, gd⟩ :: l) g K := h
theorem RunL.gAsg {a : Operand} (h : RunL P N ops (⟨ds, .assign a, ty, pos, after, gd⟩ :: l) g K) : RunL P N ops (⟨ds, .assign a, ty, pos, after, gd⟩ :: l) g K := h
theorem RunL.gLoad {t : TypeId} {a : Operand} (h : RunL P N ops (⟨ds, .load t a, ty, pos, after, gd⟩ :: l) g K) : RunL P N ops (⟨ds, .load t a, ty, pos, after, gd⟩ :: l) g K := h
theorem RunL.gFA {t : TypeId} {a : Operand} {j : Nat} (h : RunL P N ops (⟨ds, .fieldAddr t a j, ty, pos, after, gd⟩ :: l) g K) : RunL P N ops (⟨ds, .fieldAddr t a j, ty, pos, after, gd⟩ :: l) g K := h
theorem RunL.gFld {t : TypeId} {a : Operand} {j : Nat} (h : RunL P N ops (⟨ds, .field t a j, ty, pos, after, gd⟩ :: l) g K) : RunL P N ops (⟨ds, .field t a j, ty, pos, after, gd⟩ :: l) g K := h
theorem RunL.gBin {bo : BinOp} {t t2 : TypeId} {a b : Operand} (h : RunL P N ops (⟨ds, .binOp bo t a b t2, ty, pos, after, gd⟩ :: l) g K) : RunL P N ops (⟨ds, .binOp bo t a b t2, ty, pos, after, gd⟩ :: l) g K := h
theorem RunL.gPick {a b c : Operand} (h : RunL P N ops (⟨ds, .pick a b c, ty, pos, after, gd⟩ :: l) g K) : RunL P N ops (⟨ds, .pick a b c, ty, pos, after, gd⟩ :: l) g K := h
theorem RunL.gIA {t : TypeId} {a b : Operand} (h : RunL P N ops (⟨ds, .indexAddr t a b, ty, pos, after, gd⟩ :: l) g K) : RunL P N ops (⟨ds, .indexAddr t a b, ty, pos, after, gd⟩ :: l) g K := h
theorem RunL.gIdx {t : TypeId} {a b : Operand} (h : RunL P N ops (⟨ds, .index t a b, ty, pos, after, gd⟩ :: l) g K) : RunL P N ops (⟨ds, .index t a b, ty, pos, after, gd⟩ :: l) g K := h
theorem RunL.gNil {a : Operand} (h : RunL P N ops (⟨ds, .nilCheck a, ty, pos, after, gd⟩ :: l) g K) : RunL P N ops (⟨ds, .nilCheck a, ty, pos, after, gd⟩ :: l) g K := h
theorem RunL.gCall {c : Call} (h : RunL P N ops (⟨ds, .call c, ty, pos, after, gd⟩ :: l) g K) : RunL P N ops (⟨ds, .call c, ty, pos, after, gd⟩ :: l) g K := h
theorem RunL.gUn {uo : UnOp} {t : TypeId} {a : Operand} (h : RunL P N ops (⟨ds, .unOp uo t a, ty, pos, after, gd⟩ :: l) g K) : RunL P N ops (⟨ds, .unOp uo t a, ty, pos, after, gd⟩ :: l) g K := h
theorem RunL.gExt {a : Operand} {j : Nat} (h : RunL P N ops (⟨ds, .extract a j, ty, pos, after, gd⟩ :: l) g K) : RunL P N ops (⟨ds, .extract a j, ty, pos, after, gd⟩ :: l) g K := h
theorem RunL.gSl {t : TypeId} {a : Operand} {lo hi mx : Option Operand} (h : RunL P N ops (⟨ds, .slice t a lo hi mx, ty, pos, after, gd⟩ :: l) g K) : RunL P N ops (⟨ds, .slice t a lo hi mx, ty, pos, after, gd⟩ :: l) g K := h
theorem RunL.gConv {t t2 : TypeId} {a : Operand} (h : RunL P N ops (⟨ds, .convert t t2 a, ty, pos, after, gd⟩ :: l) g K) : RunL P N ops (⟨ds, .convert t t2 a, ty, pos, after, gd⟩ :: l) g K := h
theorem RunL.gBlss {t t2 : TypeId} {a b : Operand} (h : RunL P N ops (⟨ds, .binOp .lss t a b t2, ty, pos, after, gd⟩ :: l) g K) : RunL P N ops (⟨ds, .binOp .lss t a b t2, ty, pos, after, gd⟩ :: l) g K := h
theorem RunL.gBleq {t t2 : TypeId} {a b : Operand} (h : RunL P N ops (⟨ds, .binOp .leq t a b t2, ty, pos, after, gd⟩ :: l) g K) : RunL P N ops (⟨ds, .binOp .leq t a b t2, ty, pos, after, gd⟩ :: l) g K := h
theorem RunL.gBgtr {t t2 : TypeId} {a b : Operand} (h : RunL P N ops (⟨ds, .binOp .gtr t a b t2, ty, pos, after, gd⟩ :: l) g K) : RunL P N ops (⟨ds, .binOp .gtr t a b t2, ty, pos, after, gd⟩ :: l) g K := h
theorem RunL.gBgeq {t t2 : TypeId} {a b : Operand} (h : RunL P N ops (⟨ds, .binOp .geq t a b t2, ty, pos, after, gd⟩ :: l) g K) : RunL P N ops (⟨ds, .binOp .geq t a b t2, ty, pos, after, gd⟩ :: l) g K := h
theorem RunL.gBeql {t t2 : TypeId} {a b : Operand} (h : RunL P N ops (⟨ds, .binOp .eql t a b t2, ty, pos, after, gd⟩ :: l) g K) : RunL P N ops (⟨ds, .binOp .eql t a b t2, ty, pos, after, gd⟩ :: l) g K := h
theorem RunL.gBneq {t t2 : TypeId} {a b : Operand} (h : RunL P N ops (⟨ds, .binOp .neq t a b t2, ty, pos, after, gd⟩ :: l) g K) : RunL P N ops (⟨ds, .binOp .neq t a b t2, ty, pos, after, gd⟩ :: l) g K := h
theorem RunL.gBadd {t t2 : TypeId} {a b : Operand} (h : RunL P N ops (⟨ds, .binOp .add t a b t2, ty, pos, after, gd⟩ :: l) g K) : RunL P N ops (⟨ds, .binOp .add t a b t2, ty, pos, after, gd⟩ :: l) g K := h
theorem RunL.gBsub {t t2 : TypeId} {a b : Operand} (h : RunL P N ops (⟨ds, .binOp .sub t a b t2, ty, pos, after, gd⟩ :: l) g K) : RunL P N ops (⟨ds, .binOp .sub t a b t2, ty, pos, after, gd⟩ :: l) g K := h
theorem RunL.gBmul {t t2 : TypeId} {a b : Operand} (h : RunL P N ops (⟨ds, .binOp .mul t a b t2, ty, pos, after, gd⟩ :: l) g K) : RunL P N ops (⟨ds, .binOp .mul t a b t2, ty, pos, after, gd⟩ :: l) g K := h
theorem RunL.gBquo {t t2 : TypeId} {a b : Operand} (h : RunL P N ops (⟨ds, .binOp .quo t a b t2, ty, pos, after, gd⟩ :: l) g K) : RunL P N ops (⟨ds, .binOp .quo t a b t2, ty, pos, after, gd⟩ :: l) g K := h
theorem RunL.gBrem {t t2 : TypeId} {a b : Operand} (h : RunL P N ops (⟨ds, .binOp .rem t a b t2, ty, pos, after, gd⟩ :: l) g K) : RunL P N ops (⟨ds, .binOp .rem t a b t2, ty, pos, after, gd⟩ :: l) g K := h

theorem RunL.forget {g1 : Gst} (hk : Keep g g1) (h : RunL P N ops l g1 K) : RunL P N ops l g K := by
  intro i hi
  obtain ⟨g', hr, hK⟩ := h i hi
  exact ⟨g', .forget hk hr, hK⟩

/-! ### Numbers and texts -/
variable {a b : Operand} {t t2 : TypeId} {k : IntKind} {m n : Int}

theorem PS1.add (hx : Rd g a (.lit (.int k m))) (hy : Rd g b (.lit (.int k n))) : PS1 P g (.binOp .add t a b t2) ty (.lit (.int k (k.wrap (m + n)))) :=
  .bin hx.opd hy.opd rfl fun w => by simp [eqGuard, binOp, Op.intArith]
theorem PS1.add' (hx : Rd g a (.lit (.int k m))) (hy : Rd g b (.lit (.int k n))) (h : k.wrap (m + n) = m + n) : PS1 P g (.binOp .add t a b t2) ty (.lit (.int k (m + n))) := by
  have := PS1.add (P := P) (ty := ty) (t := t) (t2 := t2) hx hy; rwa [h] at this
theorem PS1.subt (hx : Rd g a (.lit (.int k m))) (hy : Rd g b (.lit (.int k n))) : PS1 P g (.binOp .sub t a b t2) ty (.lit (.int k (k.wrap (m - n)))) :=
  .bin hx.opd hy.opd rfl fun w => by simp [eqGuard, binOp, Op.intArith]
theorem PS1.subt' (hx : Rd g a (.lit (.int k m))) (hy : Rd g b (.lit (.int k n))) (h : k.wrap (m - n) = m - n) : PS1 P g (.binOp .sub t a b t2) ty (.lit (.int k (m - n))) := by
  have := PS1.subt (P := P) (ty := ty) (t := t) (t2 := t2) hx hy; rwa [h] at this
theorem PS1.mul (hx : Rd g a (.lit (.int k m))) (hy : Rd g b (.lit (.int k n))) : PS1 P g (.binOp .mul t a b t2) ty (.lit (.int k (k.wrap (m * n)))) :=
  .bin hx.opd hy.opd rfl fun w => by simp [eqGuard, binOp, Op.intArith]
theorem PS1.mul' (hx : Rd g a (.lit (.int k m))) (hy : Rd g b (.lit (.int k n))) (h : k.wrap (m * n) = m * n) : PS1 P g (.binOp .mul t a b t2) ty (.lit (.int k (m * n))) := by
  have := PS1.mul (P := P) (ty := ty) (t := t) (t2 := t2) hx hy; rwa [h] at this
theorem PS1.quo (hx : Rd g a (.lit (.int k m))) (hy : Rd g b (.lit (.int k n))) (h : n ≠ 0) : PS1 P g (.binOp .quo t a b t2) ty (.lit (.int k (k.wrap (m.tdiv n)))) :=
  .bin hx.opd hy.opd rfl fun w => by simp [eqGuard, binOp, Op.intDiv, h]
theorem PS1.rem (hx : Rd g a (.lit (.int k m))) (hy : Rd g b (.lit (.int k n))) (h : n ≠ 0) : PS1 P g (.binOp .rem t a b t2) ty (.lit (.int k (m.tmod n))) :=
  .bin hx.opd hy.opd rfl fun w => by simp [eqGuard, binOp, Op.intDiv, h]
theorem PS1.cat {s u : ByteArray} (hx : Rd g a (.lit (.string s))) (hy : Rd g b (.lit (.string u))) (h : s.size + u.size ≤ 9223372036854775807) : PS1 P g (.binOp .add t a b t2) ty (.lit (.string (s ++ u))) :=
  .bin hx.opd hy.opd rfl fun w => by
    have : ¬ ((s.size + u.size : Nat) : Int) > IntKind.i64.max := by
      have : IntKind.i64.max = 9223372036854775807 := by decide
      omega
    simp only [eqGuard, binOp, Op.stringOp, if_neg this]
    simp

theorem bytes_ext {s u : ByteArray} (h : s.toList = u.toList) : s = u := by
  have h1 : s.data.toList = u.data.toList := by
    rw [← ByteArray.toList_eq, ← ByteArray.toList_eq, h]
  cases s; cases u
  congr 1
  exact Array.toList_inj.1 h1

theorem PS1.eqS {s u : ByteArray} (hx : Rd g a (.lit (.string s))) (hy : Rd g b (.lit (.string u))) {c : Bool} (hc : c = true ↔ s = u) : PS1 P g (.binOp .eql t a b t2) ty (.lit (.bool c)) :=
  .bin hx.opd hy.opd rfl fun w => by
    have : (s.toList == u.toList) = c := by
      rw [Bool.eq_iff_iff, hc]
      simp only [beq_iff_eq]
      exact ⟨bytes_ext, fun h => by rw [h]⟩
    simp [eqGuard, binOp, Op.stringOp, this]
theorem PS1.neS {s u : ByteArray} (hx : Rd g a (.lit (.string s))) (hy : Rd g b (.lit (.string u))) {c : Bool} (hc : c = true ↔ s ≠ u) : PS1 P g (.binOp .neq t a b t2) ty (.lit (.bool c)) :=
  .bin hx.opd hy.opd rfl fun w => by
    have : (s.toList == u.toList) = !c := by
      rw [Bool.eq_iff_iff]
      simp only [beq_iff_eq, Bool.not_eq_true']
      cases c with
      | true => simp only [true_iff] at hc; simp only [Bool.true_eq_false, iff_false]; exact fun h => hc (bytes_ext h)
      | false =>
        simp only [Bool.false_eq_true, false_iff, Decidable.not_not] at hc
        simp [hc]
    simp [eqGuard, binOp, Op.stringOp, this]

theorem PS1.lss (hx : Rd g a (.lit (.int k m))) (hy : Rd g b (.lit (.int k n))) {c : Bool} (hc : c = true ↔ m < n) : PS1 P g (.binOp .lss t a b t2) ty (.lit (.bool c)) :=
  .bin hx.opd hy.opd rfl fun w => by
    have : decide (m < n) = c := by rw [Bool.eq_iff_iff, hc]; simp
    simp [eqGuard, binOp, Op.intCmp, this]
theorem PS1.leq (hx : Rd g a (.lit (.int k m))) (hy : Rd g b (.lit (.int k n))) {c : Bool} (hc : c = true ↔ m ≤ n) : PS1 P g (.binOp .leq t a b t2) ty (.lit (.bool c)) :=
  .bin hx.opd hy.opd rfl fun w => by
    have : decide (m ≤ n) = c := by rw [Bool.eq_iff_iff, hc]; simp
    simp [eqGuard, binOp, Op.intCmp, this]
theorem PS1.gtr (hx : Rd g a (.lit (.int k m))) (hy : Rd g b (.lit (.int k n))) {c : Bool} (hc : c = true ↔ n < m) : PS1 P g (.binOp .gtr t a b t2) ty (.lit (.bool c)) :=
  .bin hx.opd hy.opd rfl fun w => by
    have : decide (n < m) = c := by rw [Bool.eq_iff_iff, hc]; simp
    simp [eqGuard, binOp, Op.intCmp, this]
theorem PS1.geq (hx : Rd g a (.lit (.int k m))) (hy : Rd g b (.lit (.int k n))) {c : Bool} (hc : c = true ↔ n ≤ m) : PS1 P g (.binOp .geq t a b t2) ty (.lit (.bool c)) :=
  .bin hx.opd hy.opd rfl fun w => by
    have : decide (n ≤ m) = c := by rw [Bool.eq_iff_iff, hc]; simp
    simp [eqGuard, binOp, Op.intCmp, this]
theorem PS1.eql (hx : Rd g a (.lit (.int k m))) (hy : Rd g b (.lit (.int k n))) {c : Bool} (hc : c = true ↔ m = n) : PS1 P g (.binOp .eql t a b t2) ty (.lit (.bool c)) :=
  .bin hx.opd hy.opd rfl fun w => by
    have : (m == n) = c := by rw [Bool.eq_iff_iff, hc]; simp
    simp [eqGuard, binOp, Op.intCmp, this]
theorem PS1.neq (hx : Rd g a (.lit (.int k m))) (hy : Rd g b (.lit (.int k n))) {c : Bool} (hc : c = true ↔ m ≠ n) : PS1 P g (.binOp .neq t a b t2) ty (.lit (.bool c)) :=
  .bin hx.opd hy.opd rfl fun w => by
    have : (m != n) = c := by rw [Bool.eq_iff_iff, hc]; simp
    simp [eqGuard, binOp, Op.intCmp, this]
/-! ### Comparisons: both ways -/
theorem PS1.lssT (hx : Rd g a (.lit (.int k m))) (hy : Rd g b (.lit (.int k n))) (h : m < n) : PS1 P g (.binOp .lss t a b t2) ty (.lit (.bool true)) := PS1.lss hx hy (by simpa using h)
theorem PS1.lssF (hx : Rd g a (.lit (.int k m))) (hy : Rd g b (.lit (.int k n))) (h : n ≤ m) : PS1 P g (.binOp .lss t a b t2) ty (.lit (.bool false)) := PS1.lss hx hy (by simpa using h)
theorem RunL.lssS (hx : Rd g a (.lit (.int k m))) (hy : Rd g b (.lit (.int k n))) (hN : N.ok d = true) (hf : g d = none) (hg : Gd g ops gd) (hT : m < n → RunL P N ops l (upd g d (.lit (.bool true))) K) (hF : n ≤ m → RunL P N ops l (upd g d (.lit (.bool false))) K) :
    RunL P N ops (⟨some d, .binOp .lss t a b t2, ty, pos, after, gd⟩ :: l) g K := by
  by_cases h : m < n
  · exact .val (.lssT hx hy h) hN hf hg (hT h)
  · have h' : n ≤ m := by omega
    exact .val (.lssF hx hy h') hN hf hg (hF h')
theorem PS1.leqT (hx : Rd g a (.lit (.int k m))) (hy : Rd g b (.lit (.int k n))) (h : m ≤ n) : PS1 P g (.binOp .leq t a b t2) ty (.lit (.bool true)) := PS1.leq hx hy (by simpa using h)
theorem PS1.leqF (hx : Rd g a (.lit (.int k m))) (hy : Rd g b (.lit (.int k n))) (h : n < m) : PS1 P g (.binOp .leq t a b t2) ty (.lit (.bool false)) := PS1.leq hx hy (by simpa using h)
theorem RunL.leqS (hx : Rd g a (.lit (.int k m))) (hy : Rd g b (.lit (.int k n))) (hN : N.ok d = true) (hf : g d = none) (hg : Gd g ops gd) (hT : m ≤ n → RunL P N ops l (upd g d (.lit (.bool true))) K) (hF : n < m → RunL P N ops l (upd g d (.lit (.bool false))) K) :
    RunL P N ops (⟨some d, .binOp .leq t a b t2, ty, pos, after, gd⟩ :: l) g K := by
  by_cases h : m ≤ n
  · exact .val (.leqT hx hy h) hN hf hg (hT h)
  · have h' : n < m := by omega
    exact .val (.leqF hx hy h') hN hf hg (hF h')
theorem PS1.gtrT (hx : Rd g a (.lit (.int k m))) (hy : Rd g b (.lit (.int k n))) (h : n < m) : PS1 P g (.binOp .gtr t a b t2) ty (.lit (.bool true)) := PS1.gtr hx hy (by simpa using h)
theorem PS1.gtrF (hx : Rd g a (.lit (.int k m))) (hy : Rd g b (.lit (.int k n))) (h : m ≤ n) : PS1 P g (.binOp .gtr t a b t2) ty (.lit (.bool false)) := PS1.gtr hx hy (by simpa using h)
theorem RunL.gtrS (hx : Rd g a (.lit (.int k m))) (hy : Rd g b (.lit (.int k n))) (hN : N.ok d = true) (hf : g d = none) (hg : Gd g ops gd) (hT : n < m → RunL P N ops l (upd g d (.lit (.bool true))) K) (hF : m ≤ n → RunL P N ops l (upd g d (.lit (.bool false))) K) :
    RunL P N ops (⟨some d, .binOp .gtr t a b t2, ty, pos, after, gd⟩ :: l) g K := by
  by_cases h : n < m
  · exact .val (.gtrT hx hy h) hN hf hg (hT h)
  · have h' : m ≤ n := by omega
    exact .val (.gtrF hx hy h') hN hf hg (hF h')
theorem PS1.geqT (hx : Rd g a (.lit (.int k m))) (hy : Rd g b (.lit (.int k n))) (h : n ≤ m) : PS1 P g (.binOp .geq t a b t2) ty (.lit (.bool true)) := PS1.geq hx hy (by simpa using h)
theorem PS1.geqF (hx : Rd g a (.lit (.int k m))) (hy : Rd g b (.lit (.int k n))) (h : m < n) : PS1 P g (.binOp .geq t a b t2) ty (.lit (.bool false)) := PS1.geq hx hy (by simpa using h)
theorem RunL.geqS (hx : Rd g a (.lit (.int k m))) (hy : Rd g b (.lit (.int k n))) (hN : N.ok d = true) (hf : g d = none) (hg : Gd g ops gd) (hT : n ≤ m → RunL P N ops l (upd g d (.lit (.bool true))) K) (hF : m < n → RunL P N ops l (upd g d (.lit (.bool false))) K) :
    RunL P N ops (⟨some d, .binOp .geq t a b t2, ty, pos, after, gd⟩ :: l) g K := by
  by_cases h : n ≤ m
  · exact .val (.geqT hx hy h) hN hf hg (hT h)
  · have h' : m < n := by omega
    exact .val (.geqF hx hy h') hN hf hg (hF h')
theorem PS1.eqlT (hx : Rd g a (.lit (.int k m))) (hy : Rd g b (.lit (.int k n))) (h : m = n) : PS1 P g (.binOp .eql t a b t2) ty (.lit (.bool true)) := PS1.eql hx hy (by simpa using h)
theorem PS1.eqlF (hx : Rd g a (.lit (.int k m))) (hy : Rd g b (.lit (.int k n))) (h : m ≠ n) : PS1 P g (.binOp .eql t a b t2) ty (.lit (.bool false)) := PS1.eql hx hy (by simpa using h)
theorem RunL.eqlS (hx : Rd g a (.lit (.int k m))) (hy : Rd g b (.lit (.int k n))) (hN : N.ok d = true) (hf : g d = none) (hg : Gd g ops gd) (hT : m = n → RunL P N ops l (upd g d (.lit (.bool true))) K) (hF : m ≠ n → RunL P N ops l (upd g d (.lit (.bool false))) K) :
    RunL P N ops (⟨some d, .binOp .eql t a b t2, ty, pos, after, gd⟩ :: l) g K := by
  by_cases h : m = n
  · exact .val (.eqlT hx hy h) hN hf hg (hT h)
  · have h' : m ≠ n := by omega
    exact .val (.eqlF hx hy h') hN hf hg (hF h')
theorem PS1.neqT (hx : Rd g a (.lit (.int k m))) (hy : Rd g b (.lit (.int k n))) (h : m ≠ n) : PS1 P g (.binOp .neq t a b t2) ty (.lit (.bool true)) := PS1.neq hx hy (by simpa using h)
theorem PS1.neqF (hx : Rd g a (.lit (.int k m))) (hy : Rd g b (.lit (.int k n))) (h : m = n) : PS1 P g (.binOp .neq t a b t2) ty (.lit (.bool false)) := PS1.neq hx hy (by simpa using h)
theorem RunL.neqS (hx : Rd g a (.lit (.int k m))) (hy : Rd g b (.lit (.int k n))) (hN : N.ok d = true) (hf : g d = none) (hg : Gd g ops gd) (hT : m ≠ n → RunL P N ops l (upd g d (.lit (.bool true))) K) (hF : m = n → RunL P N ops l (upd g d (.lit (.bool false))) K) :
    RunL P N ops (⟨some d, .binOp .neq t a b t2, ty, pos, after, gd⟩ :: l) g K := by
  by_cases h : m ≠ n
  · exact .val (.neqT hx hy h) hN hf hg (hT h)
  · have h' : m = n := by omega
    exact .val (.neqF hx hy h') hN hf hg (hF h')
theorem PS1.eqST {s u : ByteArray} (hx : Rd g a (.lit (.string s))) (hy : Rd g b (.lit (.string u))) (h : s = u) : PS1 P g (.binOp .eql t a b t2) ty (.lit (.bool true)) := PS1.eqS hx hy (by simpa using h)
theorem PS1.eqSF {s u : ByteArray} (hx : Rd g a (.lit (.string s))) (hy : Rd g b (.lit (.string u))) (h : s ≠ u) : PS1 P g (.binOp .eql t a b t2) ty (.lit (.bool false)) := PS1.eqS hx hy (by simpa using h)
theorem PS1.neST {s u : ByteArray} (hx : Rd g a (.lit (.string s))) (hy : Rd g b (.lit (.string u))) (h : s ≠ u) : PS1 P g (.binOp .neq t a b t2) ty (.lit (.bool true)) := PS1.neS hx hy (by simpa using h)
theorem PS1.neSF {s u : ByteArray} (hx : Rd g a (.lit (.string s))) (hy : Rd g b (.lit (.string u))) (h : s = u) : PS1 P g (.binOp .neq t a b t2) ty (.lit (.bool false)) := PS1.neS hx hy (by simpa using h)
theorem RunL.eqSS {s u : ByteArray} (hx : Rd g a (.lit (.string s))) (hy : Rd g b (.lit (.string u))) (hN : N.ok d = true) (hf : g d = none) (hg : Gd g ops gd) (hT : s = u → RunL P N ops l (upd g d (.lit (.bool true))) K) (hF : s ≠ u → RunL P N ops l (upd g d (.lit (.bool false))) K) :
    RunL P N ops (⟨some d, .binOp .eql t a b t2, ty, pos, after, gd⟩ :: l) g K := by
  by_cases h : s = u
  · exact .val (.eqST hx hy h) hN hf hg (hT h)
  · exact .val (.eqSF hx hy h) hN hf hg (hF h)
theorem RunL.neSS {s u : ByteArray} (hx : Rd g a (.lit (.string s))) (hy : Rd g b (.lit (.string u))) (hN : N.ok d = true) (hf : g d = none) (hg : Gd g ops gd) (hT : s ≠ u → RunL P N ops l (upd g d (.lit (.bool true))) K) (hF : s = u → RunL P N ops l (upd g d (.lit (.bool false))) K) :
    RunL P N ops (⟨some d, .binOp .neq t a b t2, ty, pos, after, gd⟩ :: l) g K := by
  by_cases h : s = u
  · exact .val (.neSF hx hy h) hN hf hg (hF h)
  · exact .val (.neST hx hy h) hN hf hg (hT h)
theorem RunL.boolS {c : Bool} {g : Gst} (hT : c = true → RunL P N ops l (upd g d (.lit (.bool true))) K) (hF : c = false → RunL P N ops l (upd g d (.lit (.bool false))) K) : RunL P N ops l (upd g d (.lit (.bool c))) K := by
  cases c with
  | true => exact hT rfl
  | false => exact hF rfl

theorem PS1.not {c : Bool} (hx : Rd g a (.lit (.bool c))) : PS1 P g (.unOp .not t a) ty (.lit (.bool (!c))) :=
  .un hx.opd rfl fun w => by simp [Op.unary]
theorem PS1.notT (hx : Rd g a (.lit (.bool true))) : PS1 P g (.unOp .not t a) ty (.lit (.bool false)) := PS1.not hx
theorem PS1.notF (hx : Rd g a (.lit (.bool false))) : PS1 P g (.unOp .not t a) ty (.lit (.bool true)) := PS1.not hx

theorem PS1.pickT {c a b : Operand} {y : AV} (hc : Rd g c (.lit (.bool true))) (hr : Rd g a y) : PS1 P g (.pick c a b) ty y := .pick hc.opd hr.opd
theorem PS1.pickF {c a b : Operand} {y : AV} (hc : Rd g c (.lit (.bool false))) (hr : Rd g b y) : PS1 P g (.pick c a b) ty y := .pick hc.opd hr.opd

theorem PS1.lenS {s : ByteArray} (hx : Rd g a (.lit (.string s))) (ht : strT P t = true) : PS1 P g (.call { callee := .builtin .len, args := #[a], argTypes := #[t] }) ty (.lit (.int .i64 s.size)) :=
  .lits (vs := [.string s]) (by simp [hx.opd]) rfl fun w cs => by
    simp [builtin, Builtin.len_, run_underlying (strT_spec ht), goInt]

theorem PS1.atS {s : ByteArray} {i : Operand} {kd : IntKind} {j : Nat} {u : UInt8} (hx : Rd g a (.lit (.string s))) (hi : Rd g i (.lit (.int kd (j : Int)))) (ht : strT P t = true) (hb : s[j]? = some u) : PS1 P g (.index t a i) ty (.lit (.int .u8 u.toNat)) :=
  .idxStr hx.opd hi.opd ht hb

/-! ### Ends -/
section
variable {Ψ : Gst → Prop} {Φ : Exit → Gst → Prop} {id k : Nat}
theorem thenN (h : Ψ g) : thenP Ψ Φ .normal g := h
theorem thenR (h : Φ .ret g) : thenP Ψ Φ .ret g := h
theorem thenE (h : Φ (.exit k) g) : thenP Ψ Φ (.exit k) g := h
theorem inBN (h : Φ .normal g) : inB id Φ .normal g := h
theorem inBR (h : Φ .ret g) : inB id Φ .ret g := h
theorem inBH (h : Φ .normal g) : inB id Φ (.exit id) g := by
  show if id = id then Φ .normal g else Φ (.exit id) g
  rw [if_pos rfl]; exact h
theorem inBM (hk : Nat.beq k id = false) (h : Φ (.exit k) g) : inB id Φ (.exit k) g := by
  show if k = id then Φ .normal g else Φ (.exit k) g
  rw [if_neg (Nat.ne_of_beq_eq_false hk)]; exact h
end

/-- A function's end. -/
def Fin (P : Program) (N : Rm) (rs : List ResultVar) (n : Nat) (outs : List (Option AV)) (res : AV) (e : Exit) (g' : Gst) : Prop := (e = .normal ∨ e = .ret) ∧ Leaves P N rs g' n outs res

theorem Con.fin {f : FuncId} {fn : Func} {c : Code} {args : List AV} {outs : List (Option AV)} {res : AV} {N : Rm} (hf : P.funcs[f]? = some fn) (hb : fn.body = some c) (hN : fn.ntmps = N.size) (ha : Nat.ble args.length N.size = true) (hlen : outs.length = args.length)
    (hw : W P N c (argG args) (Fin P N fn.results.toList args.length outs res)) : Con P f args outs res := .of_w hf hb hN (Nat.le_of_ble_eq_true ha) hlen hw

def noneB (outs : List (Option AV)) : Bool := outs.all fun x => x.isNone

theorem noneB_spec {outs : List (Option AV)} (h : noneB outs = true) (k : Nat) (x : AV) : outs[k]? ≠ some (some x) := by
  intro e
  have := List.all_eq_true.1 h _ (List.mem_of_getElem? e)
  simp at this

/-- One result that leads to nothing. -/
theorem Fin.one {t : Nat} {y res : AV} {outs : List (Option AV)} {n : Nat} (hy : Rd g (.tmp t) y) (hn : NR y) (ho : noneB outs = true) (hl : outs.length = n) (he : y = res) : Fin P N [.tmp t] n outs res .ret g :=
  ⟨.inr rfl, ⟨[y], [y], g, .cons (.tmp hy.opd) .nil, .nr (by simpa using hn), he.symm, fun k x hk => absurd hk (noneB_spec ho k x)⟩, hl⟩

inductive Rds (g : Gst) : List ResultVar → List AV → Prop
  | nil : Rds g [] []
  | cons {t : Nat} {y : AV} {rs : List ResultVar} {ys : List AV} (h : Rd g (.tmp t) y) (hn : NR y) (ht : Rds g rs ys) : Rds g (.tmp t :: rs) (y :: ys)

theorem Rds.spec {rs : List ResultVar} {ys : List AV} (h : Rds g rs ys) : ResVs P g rs ys ∧ ∀ y ∈ ys, NR y := by
  induction h with
  | nil => exact ⟨.nil, by simp⟩
  | cons h hn _ ih => exact ⟨.cons (.tmp h.opd) ih.1, nr_cons hn ih.2⟩

/-- Some results that lead to nothing. -/
theorem Fin.many {rs : List ResultVar} {ys : List AV} {res : AV} {outs : List (Option AV)} {n : Nat} (hy : Rds g rs ys) (ho : noneB outs = true) (hl : outs.length = n) (he : resAV ys = res) : Fin P N rs n outs res .ret g :=
  ⟨.inr rfl, ⟨ys, ys, g, hy.spec.1, .nr (hy.spec (P := P)).2, he.symm, fun k x hk => absurd hk (noneB_spec ho k x)⟩, hl⟩

theorem callT_of {f : FuncId} {fn : Func} (h : P.funcs[f]? = some fn) (h2 : (fn.name != "runtime.NumGoroutine" && fn.body.isSome) = true) : callT P f = true := by
  unfold callT; rw [h]; exact h2

/-- A call: nothing lent. -/
inductive Opds (g : Gst) : List Operand → List AV → Prop
  | nil : Opds g [] []
  | cons {x : Operand} {y : AV} {xs : List Operand} {ys : List AV} (h : Rd g x y) (hn : NR y) (ht : Opds g xs ys) : Opds g (x :: xs) (y :: ys)

theorem Opds.spec {xs : List Operand} {ys : List AV} (h : Opds g xs ys) : opds g xs = some ys ∧ ∀ y ∈ ys, NR y := by
  induction h with
  | nil => exact ⟨rfl, by simp⟩
  | cons h hn _ ih => exact ⟨by simp only [opds, h.opd, ih.1], nr_cons hn ih.2⟩

theorem PC.easy {xs : List Operand} {tys : Array TypeId} {f : FuncId} {ys : List AV} {outs : List (Option AV)} {res : AV} (hcon : Con P f ys outs res) (hf : callT P f = true) (hx : Opds g xs ys) (ho : noneB outs = true) (hr : NR res) :
    PC P g (.call { callee := .value (.func f), args := xs.toArray, argTypes := tys }) res := by
  have hout : outs = ys.map fun _ => Option.none := by
    apply List.ext_getElem?
    intro k
    rw [List.getElem?_map]
    cases hy : ys[k]? with
    | none => rw [List.getElem?_eq_none (by rw [hcon.1]; exact List.getElem?_eq_none_iff.1 hy)]; rfl
    | some y =>
      have hk : k < outs.length := by rw [hcon.1]; exact (List.getElem?_eq_some_iff.1 hy).1
      have h1 := List.getElem?_eq_getElem hk
      rw [h1]
      cases h2 : outs[k] with
      | none => rfl
      | some x => rw [h2] at h1; exact absurd h1 (noneB_spec ho k x)
  exact .plain (first := []) (caps := []) (ys := ys) rfl (by simpa using hx.spec.1) hf (by simpa using hx.spec.2) (by simpa [← hout] using hcon) hr
end
end Go.Own
