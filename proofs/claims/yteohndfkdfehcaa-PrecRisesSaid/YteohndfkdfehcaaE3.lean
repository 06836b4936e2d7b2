/-
  What is proved here: parts of the proof that QRi states last: rules for walks through code, and of this program's functions what they answer. No condition of their own.
-/
import Derived.ChangeAt
import Derived.ChangeOld
import Derived.ChangeSame
import Derived.Deep.Slices
import Derived.ReadAgain
import Derived.RowKit3
import Derived.WideShapes
import Derived.Test.YteohndfkdfehcaaE2
namespace Go.Own
open Go
variable {α β : Type}
def eK (k : IntKind) : En Int := .one (fun n => .lit (.int k n)) fun _ => .lit
instance {k : IntKind} : Flat (eK k) := ⟨fun _ => rfl⟩
instance {k : IntKind} : Tw (eK k) (eK k) := ⟨rfl, fun a => (inferInstance : Vws [.lit (.int k a)] [.lit (.int k a)])⟩
instance {k : IntKind} : OOe (eK k) := ⟨fun a => (inferInstance : OOl [.lit (.int k a)])⟩
instance {cs : List AV} {n : Nat} {x : AV} [h : NRl cs] [hx : NRc x] : NRl (cs.set n x) := ⟨fun y hy => by
  rcases List.mem_or_eq_of_mem_set hy with h' | h'
  · exact h.nr y h'
  · rw [h']; exact hx.nr⟩
instance {x y : AV} [h : NRc y] : NRc (x.setAt [] y) := ⟨by simpa [AV.setAt] using h.nr⟩
def quoU (m n : Int) : Option Int := if n = 0 then none else some (IntKind.u64.wrap (m.tdiv n))
def remU (m n : Int) : Option Int := if n = 0 then none else some (m.tmod n)
inductive WkL : List AV → List AV → Prop
  | nil : WkL [] []
  | f {x : AV} {xs ys : List AV} (t : WkL xs ys) : WkL (x :: xs) (x :: ys)
  | o {z : Nat} {xs ys : List AV} (t : WkL xs ys) : WkL (.nils :: xs) (.own z 0 [] :: ys)
  | i {z : Nat} {xs ys : List AV} (t : WkL xs ys) : WkL (.nils :: xs) (.imm z 0 [] :: ys)
theorem WkL.len {xs ys : List AV} (h : WkL xs ys) : ys.length = xs.length := by
  induction h with
  | nil => rfl
  | f _ ih => simp [ih]
  | o _ ih => simp [ih]
  | i _ ih => simp [ih]
theorem WkL.get {xs ys : List AV} (h : WkL xs ys) : ∀ (k : Nat) (x y : AV), xs[k]? = some x → ys[k]? = some y → WkV x y := by
  induction h with
  | nil => intro k x y hx; simp at hx
  | f _ ih =>
    intro k a b ha hb
    cases k with
    | zero => simp at ha hb; subst ha hb; exact .refl
    | succ k => exact ih k a b (by simpa using ha) (by simpa using hb)
  | o _ ih =>
    intro k a b ha hb
    cases k with
    | zero => simp at ha hb; subst ha hb; exact .nilOwn
    | succ k => exact ih k a b (by simpa using ha) (by simpa using hb)
  | i _ ih =>
    intro k a b ha hb
    cases k with
    | zero => simp at ha hb; subst ha hb; exact .nilImm
    | succ k => exact ih k a b (by simpa using ha) (by simpa using hb)
theorem WkL.obj {xs ys : List AV} (h : WkL xs ys) : WkV (.obj xs) (.obj ys) := .obj h.len h.get
section
variable {P : Program} {N : Rm} {ops : Array Oper} {g g' g1 g2 : Gst} {K : Gst → Prop} {l : List Oper} {d r : Nat} {op : Op} {ty t t2 : TypeId} {pos : String} {after : Array Edge} {gd : Option (Nat × Bool)} {a b c : Operand} {p q : Place} {x y : AV} {k : IntKind} {m n : Int}
variable {AT : List (List Nat)} {g0 : Gst} {acc : Acc} {i : Nat}
def ndr : List Nat → Bool
  | [] => true
  | x :: l => l.all (fun y => !Nat.beq x y) && ndr l
theorem ndr_spec : ∀ {l : List Place}, ndr (l.map Place.root) = true → l.Nodup
  | [], _ => List.nodup_nil
  | p :: l, h => by
    simp only [List.map_cons, ndr, Bool.and_eq_true, List.all_eq_true] at h
    refine List.nodup_cons.2 ⟨fun hm => ?_, ndr_spec h.2⟩
    have := h.1 p.root (List.mem_map.2 ⟨p, hm, rfl⟩)
    simp at this
theorem DL.bp (j0 : Nat) {G G2 : List (Nat × AV)} {o : Oper} (he : EO P N (visG (get G) (fun _ => true) acc) o (get G2)) (hg : o.guard = none) (hpd : ndr ((acc.filterMap pendPlace).map Place.root) = true) (hp0 : npB G = true) (hj : Nat.beq ops.size (j0 + l.length + 1) = true)
    (ha : (List.range j0).all (fun k => (AT.getD j0 []).contains k) = true) (hb : (List.range ops.size).all (fun k => Nat.ble k j0 || (AT.getD k []).contains j0) = true) (hk : DL P N ops AT (get G2) (j0 + 1) [] l K) : DL P N ops AT (get G) i acc (o :: l) K := by
  intro U0 j hP hseg hdrop
  have := drop_at hdrop hj
  subst this
  obtain ⟨h1, h2⟩ := drop_cons hdrop
  obtain ⟨g', hr, hK⟩ := hk [] (j + 1) .nil .nil h2
  refine ⟨g', .bar0 hP hseg (ndr_spec hpd) (npB_spec hp0) h1 ?_ he ha ?_ hr, hK⟩
  · unfold Wanted; rw [hg]
  · refine List.all_eq_true.2 fun k hk => ?_
    have := List.all_eq_true.1 hb k hk
    simp only [Bool.or_eq_true, decide_eq_true_eq, Nat.ble_eq] at this ⊢
    exact this
theorem DL.bv (j0 : Nat) {G G2 : List (Nat × AV)} {o : Oper} {x : AV} (he : EO P N (visG (get G) (fun _ => true) acc) o (upd (get G2) d x)) (hg : o.guard = none) (hpd : ndr ((acc.filterMap pendPlace).map Place.root) = true) (hp0 : npB G = true) (hj : Nat.beq ops.size (j0 + l.length + 1) = true)
    (ha : (List.range j0).all (fun k => (AT.getD j0 []).contains k) = true) (hb : (List.range ops.size).all (fun k => Nat.ble k j0 || (AT.getD k []).contains j0) = true) (hk : DL P N ops AT (get ((d, x) :: G2)) (j0 + 1) [] l K) : DL P N ops AT (get G) i acc (o :: l) K :=
  .bp j0 (get_cons ▸ he) hg hpd hp0 hj ha hb hk
class NoPe (s : Nat) (g : Gst) : Prop where np : ∀ t, t ≠ s → ∀ z q n m new, g t ≠ some (.pend z q n m new)
instance (priority := low) {s : Nat} {g : Gst} [h : NoPd g] : NoPe s g := ⟨fun t _ => h.np t⟩
instance {s : Nat} {g : Gst} {x : AV} [h : NoPe s g] : NoPe s (upd g s x) := ⟨fun t ht z q n m new e => by
  unfold upd at e
  rw [if_neg ht] at e
  exact h.np t ht _ _ _ _ _ e⟩
instance {s d : Nat} {g : Gst} {x : AV} [h : NoPe s g] [hx : NPc x] : NoPe s (upd g d x) := ⟨fun t ht z q n m new e => by
  unfold upd at e
  split at e
  · cases e; exact hx.np _ _ _ _ _ rfl
  · exact h.np t ht _ _ _ _ _ e⟩
class NPe (s : Nat) (acc : Acc) : Prop where np : ∀ e ∈ acc, e.2.1 ≠ s → ∀ z q n m new, e.2.2 ≠ some (.pend z q n m new)
instance {s : Nat} : NPe s [] := ⟨by simp⟩
instance {s j d : Nat} {x : AV} {acc : Acc} [hx : NPc x] [h : NPe s acc] : NPe s ((j, d, some x) :: acc) := ⟨fun e he hs z q n m new hh => by
  rcases List.mem_cons.1 he with rfl | he
  · exact hx.np z q n m new (Option.some.inj hh)
  · exact h.np e he hs z q n m new hh⟩
instance {s j : Nat} {x : Option AV} {acc : Acc} [h : NPe s acc] : NPe s ((j, s, x) :: acc) := ⟨fun e he hs z q n m new hh => by
  rcases List.mem_cons.1 he with rfl | he
  · exact absurd rfl hs
  · exact h.np e he hs z q n m new hh⟩
instance {s : Nat} {G : List (Nat × AV)} {A : Nat → Bool} {acc : Acc} [hg : NoPd (get G)] [h : NPe s acc] : NoPe s (visG (get G) A acc) := ⟨fun t ht z q n m new e => by
  rcases visG_some e with ⟨e', he, h1, _, h2⟩ | ⟨_, h2⟩
  · exact h.np e' he (by rw [h1]; exact ht) _ _ _ _ _ h2
  · exact hg.np _ _ _ _ _ _ h2⟩
namespace O
theorem quoU {r : Int} (hx : Rd g a (.lit (.int .u64 m))) (hy : Rd g b (.lit (.int .u64 n))) (h : Own.quoU m n = some r) : PS P g (.binOp .quo t a b t2) ty (.lit (.int .u64 r)) := by
  unfold Own.quoU at h
  split at h
  · cases h
  · cases h; exact .p1 (.quo hx hy (by assumption))
theorem remU {r : Int} (hx : Rd g a (.lit (.int .u64 m))) (hy : Rd g b (.lit (.int .u64 n))) (h : Own.remU m n = some r) : PS P g (.binOp .rem t a b t2) ty (.lit (.int .u64 r)) := by
  unfold Own.remU at h
  split at h
  · cases h
  · cases h; exact .p1 (.rem hx hy (by assumption))
theorem cvC {L : List Int} (hx : Rd g a (.imm eU.z L.length (rowc eU L))) (ht : bytT P t t2 = true) : PS P g (.convert t t2 a) ty (SS (strOfNums L)) := by
  have h := hx.opd
  rw [rowc_map_U] at h
  exact .p1 (.convI h ht)
theorem bsL {e nn : Nat} {parts : Array (Nat × Operand)} {ys cs : List AV} {z : Nat} (ht : slT P t e z = true) (hx : opds g (parts.toList.map (·.2)) = some ys) (hc : boxAll ys = some cs) (hz : ys.all (fun y => match boxCells y with | some c => Nat.beq c.length z | none => false) = true)
    (hp : parts.toList = (parts.toList.map (·.2)).mapIdx (fun i x => (i, x))) (hn : (parts.toList.map (·.2)).length = nn) (hzero : zeroT P e z = true) (hb : Nat.ble (nn * z) 16777216 = true) (hb2 : Nat.ble nn 16777216 = true) : PS P g (.buildSlice t nn parts) ty (.own z nn cs) := by
  subst hn
  exact .p2 (.buildSlice ht hp hx (fun y hy => by
    have := List.all_eq_true.1 hz y hy
    cases hc' : boxCells y with
    | none => rw [hc'] at this; cases this
    | some c => rw [hc'] at this; exact ⟨c, rfl, Nat.eq_of_beq_eq_true this⟩) hc (Nat.le_of_ble_eq_true hb) (Nat.le_of_ble_eq_true hb2) (.inr (zeroT_spec hzero)))
theorem src_lit {z m : Nat} {cs : List AV} (hq : atP g q = some (.own z m cs)) (hl : cs.length = m * z) (hf : cs.all flatB = true) : Src g (.brw z q m) z m cs := by
  have := Src.brw (g := g) (m := m) hq (Nat.le_refl _)
  rw [List.take_of_length_le (by omega), flat_map (q := fun i => _) hf] at this
  exact this
theorem apL {en : En α} {L M r : List α} {e b0 m : Nat} {cs : List AV} (hs : Rd g a (.brw en.z p L.length)) (hp : atP g p = some (oR en L)) (hx : Rd g b (.brw en.z q m)) (hq : atP g q = some (.own en.z m cs)) (hl : cs.length = m * en.z) (hf : cs.all flatB = true) (hm : M.length = m) (ht : appT P t e en.z b0 = true) (hb : Nat.ble b0 128 = true) (h : appO L M = some r) [hno : NoPd g] :
    PS P g (.call { callee := .builtin .append, args := #[a, b], argTypes := #[t, t] }) ty (.pend en.z p L.length m cs) := by
  subst hm
  obtain ⟨h1, h2, _⟩ := app_bound h hb
  exact .pa (.grow hs.opd (.inl ⟨_, hp⟩) (fun t z' n' m' new' e => hno.np _ _ _ _ _ _ e) hx.opd (src_lit hq hl hf) ht h1 h2)
theorem mk {en : En α} {z0 : α} {r : List α} {e b0 : Nat} {zv : Value} (ht : slT P t e en.z = true) (hx : Rd g a (.lit (.int k m))) (hy : Rd g b (.lit (.int .i64 m))) (hzero : (P.info? e).bind (·.zero) = some zv) (h1 : zv.cells.toList.all Value.oneCell' = true) (hc : zv.cells.toList.map ofCell = en.cells z0) (h : mkO m z0 = some r) (hbb : (P.info? e).map (·.bytes) = some b0) (hb : Nat.ble b0 128 = true) :
    PS P g (.makeSlice t a b) ty (oR en r) := by
  unfold mkO at h
  split at h
  · rename_i hm
    have hlim : lim = 1099511627776 := rfl
    have hb' := Nat.le_of_ble_eq_true hb
    obtain ⟨j, rfl⟩ := Int.eq_ofNat_of_zero_le hm.1
    cases h
    have hj : j ≤ 1099511627776 := by omega
    have hsz : zv.cells.size = en.z := by
      have := congrArg List.length hc
      rw [List.length_map, en.len] at this
      simpa using this
    have := PS2.makeSlice (P := P) (ty := ty) ht hx.opd hy.opd hzero (by rw [← Array.all_toList]; exact h1) hsz hbb (by
      calc j * b0 ≤ 1099511627776 * 128 := Nat.mul_le_mul hj hb'
        _ = 140737488355328 := by decide) (by omega)
    rw [hc] at this
    have e1 : (List.replicate j (en.cells z0)).flatten = rowc en (List.replicate j z0) := by simp [rowc, List.flatMap_def]
    unfold oR
    rw [Int.toNat_natCast, List.length_replicate, ← e1]
    exact .p2 this
  · cases h
theorem min' (hx : Rd g a (I64 m)) (hy : Rd g b (I64 n)) : PS P g (.call { callee := .builtin .min, args := #[a, b], argTypes := #[t, t2] }) ty (I64 (min m n)) := .p1 (.lits (vs := [.int .i64 m, .int .i64 n]) (by simp [hx.opd, hy.opd]) rfl fun w cs => by
  have : (if n < m then n else m) = min m n := by omega
  simp [builtin, Builtin.min_, Builtin.min2, this])
end O
theorem row_set (en : En α) {L : List α} {y y2 : α} {o : Nat} {cs' : List AV} (h : idx L m = some y) (he : splice (en.cells y) o cs' = en.cells y2) (hlen : o + cs'.length ≤ en.z) : splice (rowc en L) (m.toNat * en.z + o) cs' = rowc en (L.set m.toNat y2) := by
  obtain ⟨h0, h1, h2⟩ := idx_spec h
  have hlt : m.toNat < L.length := (List.getElem?_eq_some_iff.1 h2).1
  have hy : L[m.toNat] = y := (List.getElem?_eq_some_iff.1 h2).2
  have e1 : rowc en L = rowc en (L.take m.toNat) ++ (en.cells y ++ rowc en (L.drop (m.toNat + 1))) := by
    have := congrArg (rowc en) (List.take_append_drop m.toNat L).symm
    rw [rowc_app, List.drop_eq_getElem_cons hlt, hy] at this
    rw [this]; simp [rowc]
  have e2 : rowc en (L.set m.toNat y2) = rowc en (L.take m.toNat) ++ (en.cells y2 ++ rowc en (L.drop (m.toNat + 1))) := by
    have : L.set m.toNat y2 = L.take m.toNat ++ y2 :: L.drop (m.toNat + 1) := by
      rw [List.set_eq_take_append_cons_drop, if_pos hlt]
    rw [this, rowc_app]; simp [rowc]
  have hl : (rowc en (L.take m.toNat)).length = m.toNat * en.z := by rw [rowc_len, List.length_take]; congr 1; omega
  rw [e1, e2, ← he]
  unfold splice
  generalize rowc en (L.take m.toNat) = A at *
  generalize rowc en (L.drop (m.toNat + 1)) = B at *
  rw [← hl]
  have hyl := en.len y
  rw [List.take_append, List.take_of_length_le (by omega), show A.length + o - A.length = o by omega, List.take_append_of_le_length (by omega)]
  rw [List.drop_append, List.drop_eq_nil_of_le (by omega), show A.length + o + cs'.length - A.length = o + cs'.length by omega, List.drop_append_of_le_length (by omega)]
  simp
theorem el_lt {en : En α} {L : List α} {i : Int} {off : Nat} {y : α} (h : idx L i = some y) (ho : Nat.blt off en.z = true) : i.toNat * en.z + off < (rowc en L).length := by
  obtain ⟨q0, q1, _⟩ := idx_spec h
  have ho' : off < en.z := by simpa using ho
  rw [rowc_len]
  have h2 : i.toNat + 1 ≤ L.length := by omega
  calc i.toNat * en.z + off < i.toNat * en.z + en.z := by omega
    _ = (i.toNat + 1) * en.z := by rw [Nat.add_mul]; omega
    _ ≤ L.length * en.z := Nat.mul_le_mul_right _ h2
theorem idx_set_same {L : List α} {i : Int} {y y2 : α} (h : idx L i = some y) : idx (L.set i.toNat y2) i = some y2 := by
  obtain ⟨q0, q1, _⟩ := idx_spec h
  have : i.toNat < L.length := by omega
  simp [idx, q0, this]
inductive El (g g2 : Gst) : AV → Prop
  | mk {α : Type} {en : En α} {L L2 : List α} {r j off : Nat} {i : Int} {y y2 : α} (h1 : atP g ⟨r, [j]⟩ = some (oR en L)) (hi : idx L i = some y) (h2 : atP g2 ⟨r, [j]⟩ = some (oR en L2)) (hi2 : idx L2 i = some y2) (ho : Nat.blt off en.z = true) : El g g2 (.ptr ⟨r, [j]⟩ (i.toNat * en.z + off))
theorem El.ok1 {x : AV} (h : El g g2 x) : RefOk g x := by
  cases h with
  | mk h1 hi h2 hi2 ho => exact ⟨_, h1, _, _, _, .inl rfl, el_lt hi ho⟩
theorem El.ok2 {x : AV} (h : El g g2 x) : RefOk g2 x := by
  cases h with
  | mk h1 hi h2 hi2 ho => exact ⟨_, h2, _, _, _, .inl rfl, el_lt hi2 ho⟩
theorem El.rk {x : AV} (h : El g g2 x) : RK g2 x := by
  have := h.ok2
  cases h with
  | mk => exact .ref rfl this
theorem El.np {x : AV} (h : El g g2 x) : ∀ z p n m new, x ≠ .pend z p n m new := by
  cases h with
  | mk => simp
theorem El.clear {x : AV} {k0 m0 : Nat} (h : El g g2 x) (hp : p.path ≠ []) : Clear p k0 m0 x := by
  cases h with
  | mk =>
    intro q hq _ j r' e
    simp only [refPlace, Option.some.injEq] at hq
    subst hq
    cases hpp : p.path with
    | nil => exact absurd hpp hp
    | cons a b => rw [hpp] at e; simp at e
inductive TrX (g g2 : Gst) (r : Nat) (x2 : AV) : List (Nat × AV) → Prop
  | nil : TrX g g2 r x2 []
  | n {s : Nat} {x : AV} {l : List (Nat × AV)} (hne : Nat.beq s r = false) (h : g s = some x) [hn : NRc x] (t : TrX g g2 r x2 l) : TrX g g2 r x2 ((s, x) :: l)
  | p {s q k : Nat} {l : List (Nat × AV)} {cs ct : List AV} (hne : Nat.beq s r = false) (h : g s = some (.ptr ⟨q, []⟩ k)) (h1 : g q = some (.obj cs)) (hk : Nat.blt k cs.length = true) (h2 : g2 q = some (.obj ct)) (hk2 : Nat.blt k ct.length = true) (t : TrX g g2 r x2 l) : TrX g g2 r x2 ((s, .ptr ⟨q, []⟩ k) :: l)
  | e {s : Nat} {x : AV} {c2 : List AV} {l : List (Nat × AV)} (hne : Nat.beq s r = false) (h : g s = some x) (he : El g g2 x) (hx2 : x2 = .obj c2) (t : TrX g g2 r x2 l) : TrX g g2 r x2 ((s, x) :: l)
  | b {l : List (Nat × AV)} {x : AV} (e : x = x2) [hn : NRc x2] (t : TrX g g2 r x2 l) : TrX g g2 r x2 ((r, x) :: l)
theorem TrX.spec {x2 : AV} {l : List (Nat × AV)} (h : TrX g g2 r x2 l) : ∀ t x, get l t = some x → (t ≠ r ∧ g t = some x ∧ (SK g g2 x ∨ El g g2 x ∧ ∃ c2, x2 = .obj c2)) ∨ (t = r ∧ x = x2 ∧ NR x) := by
  induction h with
  | nil => intro t x hx; cases hx
  | @n s x l hne h hn _ ih =>
    intro t y hy; simp only [get] at hy
    split at hy
    · rename_i e; subst e; cases hy; exact .inl ⟨Nat.ne_of_beq_eq_false hne, h, .inl (.n hn.nr)⟩
    · exact ih t y hy
  | @p s q k l cs ct hne h h1 hk h2 hk2 _ ih =>
    intro t y hy; simp only [get] at hy
    split at hy
    · rename_i e; subst e; cases hy; exact .inl ⟨Nat.ne_of_beq_eq_false hne, h, .inl (.p h1 (by simpa using hk) h2 (by simpa using hk2))⟩
    · exact ih t y hy
  | @e s x c2 l hne h he hx2 _ ih =>
    intro t y hy; simp only [get] at hy
    split at hy
    · rename_i e; subst e; cases hy; exact .inl ⟨Nat.ne_of_beq_eq_false hne, h, .inr ⟨he, _, hx2⟩⟩
    · exact ih t y hy
  | @b l x e hn _ ih =>
    intro t y hy; simp only [get] at hy
    split at hy
    · rename_i e'; subst e'; cases hy; subst e; exact .inr ⟨rfl, rfl, hn.nr⟩
    · exact ih t y hy
theorem SK.rkq {x : AV} {k0 m0 : Nat} (h : SK g g2 x) : RKp (fun r => RefOk g r ∧ Clear p k0 m0 r ∧ RefOk g2 r) x := by
  cases h with
  | n h => exact .nr h
  | p h hk h2 hk2 =>
    refine .ref rfl ⟨refOk_obj h hk, ?_, refOk_obj h2 hk2⟩
    intro q hq _ j r' e
    simp only [refPlace, Option.some.injEq] at hq
    subst hq
    simp at e
theorem EO.stE {o' : Oper} {en : En α} {L : List α} {yy y2 : α} {o : Nat} {cs' : List AV} {x2 : AV} {G2 : List (Nat × AV)} (ho : o'.op = .store t a b) (hd : o'.dst = none) (ha : Rd g a (.ptr p (m.toNat * en.z + o))) (hb : Rd g b y) (hp : atP g p = some (oR en L)) (h : idx L m = some yy) (hz : sizeT P t cs'.length = true)
    (hc : cellsP y = some cs') (he : splice (en.cells yy) o cs' = en.cells y2) (hlen : Nat.ble (o + cs'.length) en.z = true) (h0 : Nat.blt 0 cs'.length = true) (hx2 : setP g p (oR en (L.set m.toNat y2)) p.root = some x2) (hr : (get G2 p.root).isSome = true) [hn : NRc y] {y0 : AV} (hy0 : g p.root = some y0) [hno : NRc y0] (hG : TrX g (get G2) p.root x2 G2) : EO P N g o' (get G2) := by
  have hlen' := Nat.le_of_ble_eq_true hlen
  have hsp := row_set en h he hlen'
  have hl2 : (L.set m.toNat y2).length = L.length := List.length_set
  refine .store ho hd ha.opd hb.opd (.nr (by simpa using hn.nr)) .refl hc hz (p := p) (nd := oR en L) (z := en.z) (n := L.length) (cs := rowc en L) hp (.inl rfl) ?_ (by simpa using h0) (fun t x hx => ?_) (fun t x hx y hy => ?_) (fun t z q n m new hx => ?_) (by intro e; rw [e] at hr; cases hr)
  · obtain ⟨q0, q1, _⟩ := idx_spec h
    rw [rowc_len]
    have h2 : m.toNat + 1 ≤ L.length := by omega
    calc m.toNat * en.z + o + cs'.length ≤ m.toNat * en.z + en.z := by omega
      _ = (m.toNat + 1) * en.z := by rw [Nat.add_mul]; omega
      _ ≤ L.length * en.z := Nat.mul_le_mul_right _ h2
  · have hnd : (oR en L).splice (m.toNat * en.z + o) cs' = oR en (L.set m.toNat y2) := by
      show AV.own en.z L.length (splice (rowc en L) (m.toNat * en.z + o) cs') = _
      unfold oR
      rw [hsp, hl2]
    rw [hnd]
    rcases hG.spec t x hx with ⟨h1, h2, _⟩ | ⟨h1, h2, _⟩
    · rw [setP_slot h1]; exact h2
    · subst h1 h2; exact hx2
  · rcases hG.spec t x hx with ⟨h1, h2, h3⟩ | ⟨h1, h2, h3⟩
    · rw [h2] at hy; cases hy
      rcases h3 with h3 | ⟨h3, c2, rfl⟩
      · exact h3.rkq
      · refine RKp.ref (by cases h3; rfl) ⟨h3.ok1, h3.clear ?_, h3.ok2⟩
        intro e
        obtain ⟨pr, pp⟩ := p
        simp only at e
        subst e
        simp only [setP, if_true, hy0, Option.map_some, AV.setAt, Option.some.injEq] at hx2
        cases hx2
    · subst h1; rw [hy0] at hy; cases hy; exact .nr hno.nr
  · rcases hG.spec t _ hx with ⟨_, _, h3 | ⟨h3, _⟩⟩ | ⟨_, _, h3⟩
    · exact h3.np _ _ _ _ _ rfl
    · exact h3.np _ _ _ _ _ rfl
    · cases h3
end
end Go.Own
namespace Go.Own
open Go
inductive Sh where
  | b | s | i (k : IntKind)
  deriving DecidableEq
end Go.Own
namespace Go.Own
open Go
section
variable {P : Program} {g : Gst} {t t2 : TypeId} {ty : TypeId} {a b : Operand}
namespace O
end O
end
end Go.Own
namespace Go.Own
open Go
section
variable {P : Program} {N : Rm} {g g2 : Gst} {d r k0 : Nat} {α : Type}
theorem View.p0 {p : Place} {cs cs' : List AV} (hp : atP g p = some (.obj cs)) (hk : Nat.blt 0 cs.length = true) [h : Vws cs cs'] : View g (.ptr p 0) (.iptr cs') :=
  .ptr hp (z := 0) (n := 0) (.inr rfl) (by simpa using hk) (by simpa using h.l) fun k x y hx hy => h.v g k x y (by simpa using hx) hy
theorem RK.el {en : En α} {L : List α} {j off : Nat} {i : Int} {y : α} (h2 : atP g2 ⟨r, [j]⟩ = some (oR en L)) (hi : idx L i = some y) (ho : Nat.blt off en.z = true) : RK g2 (.ptr ⟨r, [j]⟩ (i.toNat * en.z + off)) :=
  (El.mk (g := g2) h2 hi h2 hi ho).rk
theorem npPtr {p : Place} {k : Nat} : ∀ z q n m new, AV.ptr p k ≠ .pend z q n m new := by simp
inductive BkE (g : Gst) (d r k0 : Nat) (G4 : List (Nat × AV)) : List (Nat × AV) → Prop
  | nil : BkE g d r k0 G4 []
  | c {α : Type} {en : En α} {L : List α} {s off : Nat} {i : Int} {y : α} {l : List (Nat × AV)} (h : g s = some (.ptr ⟨r, [k0]⟩ (i.toNat * en.z + off))) (hp : atP (get G4) ⟨r, [k0]⟩ = some (oR en L)) (hi : idx L i = some y) (ho : Nat.blt off en.z = true) (hd : Nat.beq s d = false) (h4 : get G4 s = none) (t : BkE g d r k0 G4 l) : BkE g d r k0 G4 ((s, .ptr ⟨r, [k0]⟩ (i.toNat * en.z + off)) :: l)
theorem BkE.spec {G4 l : List (Nat × AV)} (h : BkE g d r k0 G4 l) : ∀ t x, get l t = some x → get G4 t = none ∧ t ≠ d ∧ g t = some x ∧ ∃ m z n cs, x = .ptr ⟨r, [k0]⟩ m ∧ atP (get G4) ⟨r, [k0]⟩ = some (.own z n cs) ∧ m < cs.length := by
  induction h with
  | nil => intro t x hx; cases hx
  | @c α en L s off i y l h hp hi ho hd h4 _ ih =>
    intro t x hx; simp only [get] at hx
    split at hx
    · rename_i e; subst e; cases hx; exact ⟨h4, Nat.ne_of_beq_eq_false hd, h, _, _, _, _, rfl, hp, el_lt hi ho⟩
    · exact ih t x hx
theorem TrX.keep {g' : Gst} {x2 : AV} {G2 : List (Nat × AV)} (hG : TrX g (get G2) r x2 G2) (h1 : ∀ t, t ≠ r → g' t = g t) (h2 : g' r = some x2) : Keep g' (get G2) := by
  refine ⟨fun t x hx => ?_, fun t x hx => ?_, fun t z q n m new hx => ?_⟩
  · rcases hG.spec t x hx with ⟨a, b, _⟩ | ⟨rfl, rfl, _⟩
    · rw [h1 t a]; exact b
    · exact h2
  · rcases hG.spec t x hx with ⟨_, _, h3 | ⟨h3, _⟩⟩ | ⟨_, _, h3⟩
    · exact h3.rk
    · exact h3.rk
    · exact .nr h3
  · rcases hG.spec t _ hx with ⟨_, _, h3 | ⟨h3, _⟩⟩ | ⟨_, _, h3⟩
    · exact h3.np _ _ _ _ _ rfl
    · exact h3.np _ _ _ _ _ rfl
    · cases h3
theorem setP_box {cs : List AV} {y x : AV} (h : g r = some (.obj cs)) (hk : cs[k0]? = some x) : setP g ⟨r, [k0]⟩ y r = some (.obj (cs.set k0 y)) := by
  simp [setP, h, AV.setAt, AV.kids, hk, AV.setKid]
theorem EO.fr {o : Oper} {y : AV} {cs cs5 : List AV} {G1 G4 : Value → List (Nat × AV)} {c4 : Value → List AV} {G5 A : List (Nat × AV)} (hd : o.dst = some d) (hN : N.ok d = true) (hr : g r = some (.obj cs)) (hy : cs[k0]? = some y) [hyn : NRc y]
    (h1 : ∀ v, TrX g (get (G1 v)) r (.obj (cs.set k0 (.lit v))) (G1 v)) (hc : ∀ v, CallOk P N (get (G1 v)) o d (get (G4 v))) (h4r : ∀ v, get (G4 v) r = some (.obj (c4 v))) (h4k : ∀ v, (c4 v)[k0]? = some (.lit v)) (h4s : ∀ v, (c4 v).set k0 y = cs5)
    (h5 : ∀ v, TrX (get (G4 v)) (get G5) r (.obj cs5) G5) (h5r : atP (get G5) ⟨r, [k0]⟩ = some y) (hA : BkE g d r k0 G5 A) : EO P N g o (get (A ++ G5)) := by
  refine .call hd hN (CallOk.framed hr hy hyn.nr fun v hv => ⟨get (G1 v), get (G4 v), get G5, ?_, hc v, ?_, ?_, h5r, ?_⟩)
  · exact (h1 v).keep (fun t ht => setP_slot ht) (setP_box hr hy)
  · have := h4r v
    simp only [atP, this, AV.at, AV.kids, h4k v]
  · refine (h5 v).keep (fun t ht => setP_slot ht) ?_
    rw [setP_box (h4r v) (h4k v), h4s v]
  · refine ⟨fun t x h => ?_, fun t x h => ?_⟩
    · rw [get_app]
      cases hA' : get A t with
      | none => exact h
      | some z =>
        obtain ⟨q1, _⟩ := hA.spec t z hA'
        rw [q1] at h; cases h
    · rw [get_app] at h
      cases hA' : get A t with
      | none => rw [hA'] at h; exact .inl h
      | some z =>
        rw [hA'] at h
        cases h
        exact .inr (hA.spec t x hA')
end
end Go.Own
namespace Go.Own
open Go
section
variable {P : Program} {N : Rm} {ops : Array Oper} {g g1 gA : Gst} {K : Gst → Prop} {l : List Oper} {d r : Nat} {t : TypeId} {a b : Operand} {x y : AV}
variable {AT : List (List Nat)} {acc : Acc} {i : Nat}
theorem of_blt {a b : Nat} (h : Nat.blt a b = true) : a < b := by simpa using h
def neD : Option Nat → Nat → Bool
  | none, _ => true
  | some a, d => !Nat.beq a d
theorem neD_spec {o : Option Nat} {d : Nat} (h : neD o d = true) : o ≠ some d := by
  rintro rfl
  simp [neD] at h
inductive UL (P : Program) (N : Rm) (ops : Array Oper) (AT : List (List Nat)) (rs : List Nat) (gA g1 : Gst) (o : Oper) (U : Acc) : Acc → Prop
  | nil : UL P N ops AT rs gA g1 o U []
  | c {k d : Nat} {x : AV} {o' : Oper} {V : Acc} (hst : Stab rs gA g1 o x) (h1 : g1 d = none) (hne : neD o.dst d = true) (ho : ops[k]? = some o') (hod : o'.dst = some d) (hN : N.ok d = true) (hw : Wanted (visG g1 (fun m => (AT.getD k []).contains m) U) ops o' true)
      (hs : PS P (visG g1 (fun m => (AT.getD k []).contains m) U) o'.op o'.type x) (t : UL P N ops AT rs gA g1 o U V) : UL P N ops AT rs gA g1 o U ((k, d, some x) :: V)
theorem UL.spec {o : Oper} {U V : Acc} {rs : List Nat} (h : UL P N ops AT rs gA g1 o U V) : ∀ e ∈ V, (∃ x, e.2.2 = some x ∧ Stab rs gA g1 o x) ∧ (g1 e.2.1 = none ∧ o.dst ≠ some e.2.1) ∧ ∃ o', ops[e.1]? = some o' ∧ o'.dst = some e.2.1 ∧ N.ok e.2.1 = true ∧ StepOk P (visG g1 (fun m => (AT.getD e.1 []).contains m) U) ops o' e.2.2 := by
  induction h with
  | nil => intro e he; cases he
  | c hst h1 hne ho hod hN hw hs _ ih =>
    intro e he
    rcases List.mem_cons.1 he with rfl | he
    · exact ⟨⟨_, rfl, hst⟩, ⟨h1, neD_spec hne⟩, _, ho, hod, hN, .inl ⟨hw, .inl hs⟩⟩
    · exact ih e he
theorem DL.bu (j0 : Nat) {G G2 : List (Nat × AV)} {U : Acc} {o : Oper} {rs : List Nat} (he : EffV P N rs (visG (get G) (fun m => (AT.getD j0 []).contains m) acc) o (get G2)) (hrs : rs.all (fun r => (get G r).isSome) = true) (hg : o.guard = none) (hpd : ndr ((acc.filterMap pendPlace).map Place.root) = true) (hp0 : npB G = true) (hj : Nat.beq ops.size (j0 + l.length + 1) = true)
    (hU : acc.filter (fun e => !(AT.getD j0 []).contains e.1) = U) (hul : UL P N ops AT rs (visG (get G) (fun m => (AT.getD j0 []).contains m) acc) (get G2) o U U)
    (hb : (List.range ops.size).all (fun k => Nat.ble k j0 || (AT.getD k []).contains j0) = true) (hk : DL P N ops AT (get G2) (j0 + 1) U l K) : DL P N ops AT (get G) i acc (o :: l) K := by
  intro U0 j hP hseg hdrop
  have := drop_at hdrop hj
  subst this
  obtain ⟨h1, h2⟩ := drop_cons hdrop
  have hmem : ∀ e ∈ U, e ∈ acc := fun e he => by rw [← hU] at he; exact (List.mem_filter.1 he).1
  have hP1 : PendOk P N ops AT (get G2) (j + 1) U := ⟨fun e he => by have := (hseg.le hP).2 e (hmem e he); omega, fun e he => (hul.spec e he).2.1.1, by rw [← hU]; exact (List.filter_sublist.map _).nodup (hseg.nodup hP), fun e he e' he' h => hseg.uniq hP (hmem e he) (hmem e' he') h, fun e he => (hul.spec e he).2.2⟩
  obtain ⟨g', hr, hK⟩ := hk U (j + 1) hP1 .nil h2
  refine ⟨g', .bar hseg (ndr_spec hpd) (npB_spec hp0) h1 ?_ he (fun r hr e => by have := List.all_eq_true.1 hrs r hr; rw [e] at this; cases this) hU.symm (fun e h => (hul.spec e h).1) (fun e h => (hul.spec e h).2.1) (fun e h => (hul.spec e h).2.2) ?_ hr, hK⟩
  · unfold Wanted; rw [hg]
  · refine List.all_eq_true.2 fun k hk => ?_
    have := List.all_eq_true.1 hb k hk
    simp only [Bool.or_eq_true, decide_eq_true_eq, Nat.ble_eq] at this ⊢
    exact this
theorem EffV.box {o : Oper} {r : Nat} {x : AV} {G1 G2 : List (Nat × AV)} (he : EO P N (get G1) o (get G2)) (hr : g r = some x) [hx : NRc x] (hk : Trim false g (get G1) G1) (h0 : get G1 r = none) (h1 : get G2 r = none) (hd : neD o.dst r = true) : EffV P N [r] g o (get ((r, x) :: G2)) := by
  rw [← get_cons]
  exact he.eff.frame hr hx.nr hk.keep h0 h1 (neD_spec hd)
theorem EO.sO {o : Oper} {k0 : Nat} {cs cs' cs2 : List AV} {G2 : List (Nat × AV)} (ho : o.op = .store t a b) (hd : o.dst = none) (hs : g r = some (.obj cs)) (ha : Rd g a (.ptr ⟨r, []⟩ k0)) (hb : Rd g b y) [hn : NRc y] (hc : cellsP y = some cs') (hz : sizeT P t cs'.length = true)
    (hk : Nat.ble (k0 + cs'.length) cs.length = true) (h0 : Nat.blt 0 cs'.length = true) (he : splice cs k0 cs' = cs2) [hno : NRl cs] (hr : (get G2 r).isSome = true) (hG : TrS g (get G2) r cs2 G2) : EO P N g o (get G2) :=
  .box ho hd hs ha hb hn.nr hc hz (Nat.le_of_ble_eq_true hk) (by simpa using h0) he (by intro e; rw [e] at hr; cases hr) hG
end
end Go.Own
namespace Go.Own
open Go
section
variable {α : Type}
theorem Vws.app {xs ys xs' ys' : List AV} (h : Vws xs ys) (h' : Vws xs' ys') : Vws (xs ++ xs') (ys ++ ys') := ⟨by simp [h.l, h'.l], fun g k a b ha hb => by
  by_cases hk : k < xs.length
  · rw [List.getElem?_append_left hk] at ha
    rw [List.getElem?_append_left (by rw [h.l]; exact hk)] at hb
    exact h.v g k a b ha hb
  · rw [List.getElem?_append_right (by omega)] at ha
    rw [List.getElem?_append_right (by rw [h.l]; omega), h.l] at hb
    exact h'.v g _ a b ha hb⟩
instance {e e' : En α} {L : List α} [h : Tw e e'] : Vws (rowc e L) (rowc e' L) := ⟨(vws_rowc e e' L).1, (vws_rowc e e' L).2⟩
theorem Vw.pn {en en' : En α} {L M : List α} {m : Nat} {new new' : List AV} [h : Tw en en'] (hn : rowc en' M = new') (hm : M.length = m) [h' : Vws new new'] : Vw (.own en.z (L.length + m) (rowc en L ++ new)) (iR en' (L ++ M)) := ⟨fun g => by
  subst hn hm
  have hv := Vws.app (inferInstance : Vws (rowc en L) (rowc en' L)) h'
  show View g (.own en.z (L.length + M.length) (rowc en L ++ new)) (.imm en'.z (L ++ M).length (rowc en' (L ++ M)))
  have e : rowc en' (L ++ M) = rowc en' L ++ rowc en' M := by simp [rowc]
  rw [e, List.length_append, ← h.z]
  exact .own hv.l (hv.v g)⟩
end
end Go.Own
namespace Go.Own
open Go
section
variable {α : Type} {g g2 : Gst} {p q : Place} {P : Program} {a b : Operand} {t : TypeId} {ty : TypeId}
def noP (r : Nat) (acc : Acc) : Bool := acc.all fun e => match e.2.2 with
  | some (.pend _ q _ _ _) => !Nat.beq q.root r
  | _ => true
theorem noP_spec {acc : Acc} {G : List (Nat × AV)} {A : Nat → Bool} (h : noP p.root acc = true) (hG : npB G = true) : ∀ t z n m new, visG (get G) A acc t ≠ some (.pend z p n m new) := by
  intro t z n m new e
  rcases visG_some e with ⟨e', he, _, _, h2⟩ | ⟨_, h2⟩
  · have := List.all_eq_true.1 h e' he
    rw [h2] at this
    simp at this
  · exact npB_spec hG _ _ _ _ _ _ h2
namespace O
theorem apL' {en : En α} {L M r : List α} {e b0 m : Nat} {cs : List AV} (hs : Rd g a (.brw en.z p L.length)) (hp : atP g p = some (oR en L)) (hx : Rd g b (.brw en.z q m)) (hq : atP g q = some (.own en.z m cs)) (hl : cs.length = m * en.z) (hf : cs.all flatB = true) (hm : M.length = m) (ht : appT P t e en.z b0 = true) (hb : Nat.ble b0 128 = true) (h : appO L M = some r)
    (hno : ∀ t z n m new, g t ≠ some (.pend z p n m new)) : PS P g (.call { callee := .builtin .append, args := #[a, b], argTypes := #[t, t] }) ty (.pend en.z p L.length m cs) := by
  subst hm
  obtain ⟨h1, h2, _⟩ := app_bound h hb
  exact .pa (.grow hs.opd (.inl ⟨_, hp⟩) (fun t z' n' m' new' e => hno _ _ _ _ _ e) hx.opd (src_lit hq hl hf) ht h1 h2)
end O
end
end Go.Own
namespace Go.Own
open Go Go.RowKit Go.ChangeShapes Go.WideShapes Go.Deep
variable {α β σ : Type} {P : Program}
abbrev R0 (w : World) (y : AV) (u : Value) : Prop := R w (fun b => b < w.heap.size) (fun _ _ => False) y u (fun _ => False)
def RL (w : World) (ys : List AV) (cs : List Value) : Prop :=
  ys.length = cs.length ∧ ∀ (k : Nat) (y : AV) (u : Value), ys[k]? = some y → cs[k]? = some u → u.oneCell' = true ∧ R0 w y u
theorem RL.nil {w : World} : RL w [] [] := ⟨rfl, fun _ _ _ h => by simp at h⟩
theorem RL.one {w : World} {y : AV} {u : Value} (h1 : u.oneCell' = true) (h : R0 w y u) : RL w [y] [u] :=
  ⟨rfl, fun k y' u' hy hu => by
    cases k with
    | zero => simp at hy hu; subst hy hu; exact ⟨h1, h⟩
    | succ k => simp at hy⟩
theorem RL.app {w : World} {ys zs : List AV} {cs ds : List Value} (h : RL w ys cs) (h2 : RL w zs ds) : RL w (ys ++ zs) (cs ++ ds) := by
  refine ⟨by simp [h.1, h2.1], fun k y u hy hu => ?_⟩
  by_cases hk : k < ys.length
  · rw [List.getElem?_append_left hk] at hy
    rw [List.getElem?_append_left (h.1 ▸ hk)] at hu
    exact h.2 k y u hy hu
  · rw [List.getElem?_append_right (by omega)] at hy
    rw [List.getElem?_append_right (by have := h.1; omega), ← h.1] at hu
    exact h2.2 _ y u hy hu
structure Ar (P : Program) (e : En α) (t : TypeId) (ok : α → Prop) : Prop where
  z : P.cellsOf t = e.z
  go : ∀ {H : Type} {enc : TypeId × Value → H} {w : World} {n : Nat} {cs : List Value} {x : DataW H × List MemPlace},
    DataW.trod enc P w 0 (fun _ => true) true n t cs = some x → ∃ a, ok a ∧ RL w (e.cells a) cs
theorem Ar.int {e : En Int} {t : TypeId} {k : IntKind} (ht : P.underlying t = some (.int k)) (hz : P.cellsOf t = e.z) (he : ∀ n, e.cells n = [.lit (.int k n)]) :
    Ar P e t (fun n => (Lit.int k n).wf = true) := by
  refine ⟨hz, fun h => ?_⟩
  obtain ⟨n, rfl, _, hw⟩ := DataW.trod_int ht h
  exact ⟨n, hw, he n ▸ RL.one rfl (.lit rfl fun _ h => h)⟩
theorem Ar.bool {e : En Bool} {t : TypeId} (ht : P.underlying t = some .bool) (hz : P.cellsOf t = e.z) (he : ∀ n, e.cells n = [.lit (.bool n)]) :
    Ar P e t (fun _ => True) := by
  refine ⟨hz, fun h => ?_⟩
  obtain ⟨n, rfl, _⟩ := DataW.trod_bool ht h
  exact ⟨n, trivial, he n ▸ RL.one rfl (.lit rfl fun _ h => h)⟩
theorem rowc_nth (e : En α) (hz : 0 < e.z) : ∀ (l : List α) (k : Nat) (y : AV), (rowc e l)[k]? = some y → ∃ a, l[k / e.z]? = some a ∧ (e.cells a)[k % e.z]? = some y
  | [], k, y, h => by simp [rowc] at h
  | a :: l, k, y, h => by
    have he : rowc e (a :: l) = e.cells a ++ rowc e l := by simp [rowc]
    rw [he] at h
    by_cases hk : k < e.z
    · rw [List.getElem?_append_left (by rw [e.len]; exact hk)] at h
      exact ⟨a, by simp [Nat.div_eq_of_lt hk], by rw [Nat.mod_eq_of_lt hk]; exact h⟩
    · rw [List.getElem?_append_right (by rw [e.len]; omega), e.len] at h
      obtain ⟨b, h1, h2⟩ := rowc_nth e hz l (k - e.z) y h
      have hd : k / e.z = (k - e.z) / e.z + 1 := by rw [Nat.div_eq_sub_div hz (by omega)]
      refine ⟨b, by rw [hd]; simpa using h1, ?_⟩
      rw [Nat.mod_eq_sub_mod (by omega)]; exact h2
theorem Ar.slice {e : En α} {t te : TypeId} {ok : α → Prop} (h : Ar P e te ok) (ht : P.underlying t = some (.slice te)) (hz : P.cellsOf t = 1) (hpos : 0 < e.z) :
    Ar P (eM e) t (fun l => l.length ≤ maxLen ∧ ∀ x ∈ l, ok x) := by
  classical
  refine ⟨hz, fun {H enc w n cs x} hr => ?_⟩
  rcases open_slice ht hr with ⟨rfl, rfl⟩ | ⟨a, len, cap, m, n', D, Pl, rfl, hb, hl, hm, hmm, rfl, hx⟩
  · exact ⟨[], ⟨by simp, by simp⟩, RL.one rfl (.imm0 fun _ h => h)⟩
  · have hmc : m = cap := by simpa using hmm
    subst hmc
    have hex : ∀ i, i < len → ∃ q : α × List Value, ok q.1 ∧ RL w (e.cells q.1) q.2 ∧ w.cells? 0 (a.add (i * P.cellsOf te)) (P.cellsOf te) = some q.2 := fun i hi => by
      obtain ⟨cs', h1, h2⟩ := hx i (by omega)
      obtain ⟨b, hb1, hb2⟩ := h.go h2
      exact ⟨(b, cs'), hb1, hb2, h1⟩
    by_cases h0 : len = 0
    · subst h0
      exact ⟨[], ⟨by simp, by simp⟩, RL.one rfl (.imm0 fun _ h => h)⟩
    · obtain ⟨q0, _⟩ := hex 0 (by omega)
      haveI : Inhabited (α × List Value) := ⟨q0⟩
      obtain ⟨f, hf⟩ := choose_lt hex
      have hlen : ((List.range len).map fun i => (f i).1).length = len := by simp
      have hget : ∀ (i : Nat) (b : α), ((List.range len).map fun i => (f i).1)[i]? = some b → i < len ∧ b = (f i).1 := fun i b hi => by
        have hlt := (List.getElem?_eq_some_iff.1 hi).1
        simp at hlt
        simp [hlt] at hi
        exact ⟨hlt, hi.symm⟩
      have hsp : a.spot = none ∧ a.block < w.heap.size := by
        obtain ⟨_, _, h3⟩ := hf 0 (by omega)
        obtain ⟨_, hl3, h5⟩ := World.cells?_some h3
        have h6 := h5 0 (by rw [h.z]; exact hpos)
        simp only [Nat.zero_mul, Addr.add, if_true] at h6
        have : 0 < (f 0).2.length := by rw [hl3, h.z]; exact hpos
        rw [List.getElem?_eq_getElem this] at h6
        unfold World.cell? at h6
        split at h6
        · rename_i hh
          refine ⟨?_, (Array.getElem?_eq_some_iff.1 hh).1⟩
          cases hs : a.spot with
          | none => rfl
          | some s => simp [hs] at h6
        · cases h6
      have key : ∀ (k : Nat) (y : AV), (rowc e ((List.range len).map fun i => (f i).1))[k]? = some y → ∃ u, w.cell? ⟨a.block, a.off + k, none⟩ = some u ∧ u.oneCell' = true ∧ R0 w y u := fun k y hk => by
        obtain ⟨b, hb1, hb2⟩ := rowc_nth e hpos _ k y hk
        obtain ⟨hi, rfl⟩ := hget _ _ hb1
        obtain ⟨_, h2, h3⟩ := hf _ hi
        obtain ⟨_, hl3, h5⟩ := World.cells?_some h3
        have hmod : k % e.z < e.z := Nat.mod_lt _ hpos
        have h6 := h5 (k % e.z) (by rw [h.z]; exact hmod)
        rw [Deep.add_add, h.z] at h6
        have hk2 : k / e.z * e.z + k % e.z = k := by rw [Nat.mul_comm]; exact Nat.div_add_mod k e.z
        rw [hk2] at h6
        have hlt : k % e.z < (f (k / e.z)).2.length := by rw [hl3, h.z]; exact hmod
        rw [List.getElem?_eq_getElem hlt] at h6
        have ha : a.add k = ⟨a.block, a.off + k, none⟩ := by
          unfold Addr.add
          split
          · rename_i h00; subst h00; cases a; simp at hsp ⊢; exact hsp.1
          · rfl
        rw [ha] at h6
        exact ⟨_, h6, h2.2 _ _ _ hb2 (List.getElem?_eq_getElem hlt)⟩
      refine ⟨(List.range len).map fun i => (f i).1, ⟨by rw [hlen]; omega, fun y hy => ?_⟩, RL.one rfl ?_⟩
      · obtain ⟨i, hi, rfl⟩ := List.mem_map.1 hy
        exact (hf i (List.mem_range.1 hi)).1
      · show R0 w (.imm e.z _ _) _
        rw [hlen]
        refine .imm (us := fun k => (w.cell? ⟨a.block, a.off + k, none⟩).getD .nilFunc) (fun _ h => h) hl hsp.2 hsp.1 (by rw [rowc_len, hlen]) (fun k y hk => ?_) (fun k y hk => ?_) (fun k y hk => ?_)
        · obtain ⟨u, h1, h2, h3⟩ := key k y hk
          simp only [h1, Option.getD_some]; exact h2
        · obtain ⟨u, h1, h2, h3⟩ := key k y hk
          simp only [h1, Option.getD_some]
        · obtain ⟨u, h1, h2, h3⟩ := key k y hk
          simp only [h1, Option.getD_some]; exact h3
def fieldsB (P : Program) : Nat → List Field → List TypeId → Bool
  | _, [], [] => true
  | off, f :: fs, t :: ts => decide (f.type = t) && decide (f.offset = off) && fieldsB P (off + P.cellsOf t) fs ts
  | _, _, _ => false
def strB (P : Program) (t : TypeId) (ts : List TypeId) : Bool :=
  match P.underlying t with
  | some (.struct fs) => fieldsB P 0 fs.toList ts && decide (P.cellsOf t = (ts.map P.cellsOf).sum)
  | _ => false
structure ArL (P : Program) (cells : β → List AV) (ts : List TypeId) (ok : β → Prop) : Prop where
  go : ∀ {H : Type} {enc : TypeId × Value → H} {w : World} {n : Nat} {cs : List Value} {fs : List Field} {off : Nat}, fieldsB P off fs ts = true → cs.length = off + (ts.map P.cellsOf).sum →
    (∀ (i : Nat) (f : Field), fs[i]? = some f → ∃ x, DataW.trod enc P w 0 (fun _ => true) true n f.type ((cs.drop f.offset).take (P.cellsOf f.type)) = some x) →
    ∃ b, ok b ∧ RL w (cells b) (cs.drop off)
theorem ArL.nil : ArL P (fun _ : Unit => []) [] (fun _ => True) :=
  ⟨fun {H enc w n cs fs off} _ hl _ => ⟨(), trivial, by rw [List.drop_eq_nil_of_le (by simp at hl; omega)]; exact RL.nil⟩⟩
theorem ArL.cons {e : En α} {t : TypeId} {ts : List TypeId} {ok : α → Prop} {cells : β → List AV} {okl : β → Prop} (h : Ar P e t ok) (hl : ArL P cells ts okl) :
    ArL P (fun p : α × β => e.cells p.1 ++ cells p.2) (t :: ts) (fun p => ok p.1 ∧ okl p.2) := by
  refine ⟨fun {H enc w n cs fs off} hB hlen hr => ?_⟩
  cases fs with
  | nil => simp [fieldsB] at hB
  | cons f fs =>
    simp only [fieldsB, Bool.and_eq_true, decide_eq_true_eq] at hB
    obtain ⟨⟨rfl, rfl⟩, hB⟩ := hB
    obtain ⟨x, hx⟩ := hr 0 f rfl
    obtain ⟨a, ha, hR⟩ := h.go hx
    obtain ⟨b, hb, hRb⟩ := hl.go (off := f.offset + P.cellsOf f.type) (cs := cs) hB (by rw [hlen]; simp [Nat.add_assoc]) (fun i f' hf' => hr (i + 1) f' (by simpa using hf'))
    refine ⟨(a, b), ⟨ha, hb⟩, ?_⟩
    have : cs.drop f.offset = (cs.drop f.offset).take (P.cellsOf f.type) ++ cs.drop (f.offset + P.cellsOf f.type) := by
      rw [← List.drop_drop]; exact (List.take_append_drop _ _).symm
    rw [this]
    exact hR.app hRb
theorem Ar.struct {e : En σ} {t : TypeId} {ts : List TypeId} {cells : β → List AV} {ok : β → Prop} (h : ArL P cells ts ok) (mk : β → σ) (un : σ → β) (hun : ∀ b, un (mk b) = b) (hc : ∀ b, e.cells (mk b) = cells b) (ht : strB P t ts = true) (hz : P.cellsOf t = e.z) :
    Ar P e t (fun s => ok (un s)) := by
  refine ⟨hz, fun {H enc w n cs x} hr => ?_⟩
  unfold strB at ht
  split at ht
  · rename_i fs hu
    simp only [Bool.and_eq_true, decide_eq_true_eq] at ht
    obtain ⟨xs, n', rfl, rfl, hl, hxl, hx⟩ := DataW.trod_struct hu hr
    obtain ⟨b, hb, hR⟩ := h.go (w := w) (off := 0) (cs := cs) (fs := fs.toList) (n := n') (enc := enc) ht.1 (by rw [hl, ht.2]; simp) (fun i f hf => by
      have hf' : fs[i]? = some f := by simpa using hf
      have hi : i < xs.length := by rw [hxl]; exact (Array.getElem?_eq_some_iff.1 hf').1
      exact ⟨xs[i], by rw [hx i f hf', List.getElem?_eq_getElem hi]⟩)
    exact ⟨mk b, by rw [hun]; exact hb, by rw [hc]; simpa using hR⟩
  · cases ht
inductive ArgR (w : World) : AV → Value → Prop
  | mk {y : AV} {v : Value} (h : R0 w y v) : ArgR w y v
theorem Ar.one {e : En α} {t : TypeId} {ok : α → Prop} {g : α → AV} (h : Ar P e t ok) (he : ∀ a, e.cells a = [g a]) {H : Type} {enc : TypeId × Value → H} {w : World} {v : Value} {d : DataW H} {p : List MemPlace} (hv : v.cells.toList = [v])
    (ht : DataW.Trod enc P w 0 (fun _ => true) true t v d p) : ∃ a, ok a ∧ ArgR w (g a) v := by
  obtain ⟨n, hn⟩ := ht
  obtain ⟨a, ha, hR⟩ := h.go hn
  refine ⟨a, ha, .mk ?_⟩
  rw [hv, he] at hR
  exact (hR.2 0 _ _ rfl rfl).2
theorem Ar.oneI {e : En Int} {t : TypeId} {k : IntKind} {ok : Int → Prop} {g : Int → AV} (h : Ar P e t ok) (he : ∀ a, e.cells a = [g a]) (hu : P.underlying t = some (.int k)) {H : Type} {enc : TypeId × Value → H} {w : World} {v : Value} {d : DataW H} {p : List MemPlace} {base : Nat} (hv : Value.okWide P w .any base t v)
    (ht : DataW.Trod enc P w 0 (fun _ => true) true t v d p) : ∃ a, ok a ∧ ArgR w (g a) v := by
  obtain ⟨n, rfl⟩ := okWide_int hu hv
  exact h.one he rfl ht
theorem Ar.oneA {e : En α} {t : TypeId} {ok : α → Prop} {ts : List TypeId} (h : Ar P e t ok) (hB : strB P t ts = true) {H : Type} {enc : TypeId × Value → H} {w : World} {v : Value} {d : DataW H} {p : List MemPlace} {base : Nat} (hv : Value.okWide P w .any base t v)
    (ht : DataW.Trod enc P w 0 (fun _ => true) true t v d p) : ∃ a, ok a ∧ ArgR w (.agg (e.cells a)) v := by
  have hu : ∃ fs, P.underlying t = some (.struct fs) := by
    unfold strB at hB
    split at hB
    · exact ⟨_, by assumption⟩
    · cases hB
  obtain ⟨fs, hu⟩ := hu
  obtain ⟨cs, rfl, hcs⟩ := okWide_struct hu hv
  obtain ⟨n, hn⟩ := ht
  obtain ⟨a, ha, hR⟩ := h.go hn
  refine ⟨a, ha, .mk ?_⟩
  have hR' : RL w (e.cells a) cs.toList := hR
  refine .agg (Fs := fun _ _ => False) (by simpa using hR'.1) (fun k u hu => ?_) (fun k x u hx hu => (hR'.2 k x u hx (by simpa using hu)).2) (fun _ _ _ _ _ h => h.elim) (fun c => ⟨fun h => h.elim, fun ⟨_, _, h⟩ => h⟩)
  have hk : k < (e.cells a).length := by rw [hR'.1]; simpa using (Array.getElem?_eq_some_iff.1 hu).1
  exact (hR'.2 k _ u (List.getElem?_eq_getElem hk) (by simpa using hu)).1
inductive ArgsR (w : World) : List AV → List Value → Prop
  | nil : ArgsR w [] []
  | cons {y : AV} {v : Value} {ys : List AV} {vs : List Value} (h : ArgR w y v) (hs : ArgsR w ys vs) : ArgsR w (y :: ys) (v :: vs)
theorem ArgsR.get {w : World} {ys : List AV} {vs : List Value} (h : ArgsR w ys vs) : ys.length = vs.length ∧ ∀ (k : Nat) (y : AV), ys[k]? = some y → ∃ v, vs[k]? = some v ∧ R0 w y v := by
  induction h with
  | nil => exact ⟨rfl, fun k y h => by simp at h⟩
  | cons h _ ih =>
    refine ⟨by simp [ih.1], fun k y hy => ?_⟩
    cases k with
    | zero =>
      simp at hy; subst hy
      obtain ⟨h⟩ := h
      exact ⟨_, rfl, h⟩
    | succ k => simpa using ih.2 k y (by simpa using hy)
theorem ArgsR.sr {w : World} {ys : List AV} {vs : List Value} (h : ArgsR w ys vs) (hp : ys.all (fun y => match y with | .pend .. => false | _ => true) = true) :
    SR w (fun b => b < w.heap.size) vs.toArray (argG ys) (fun _ => E0) := by
  refine ⟨fun t x hx => ?_, fun _ _ _ h => h, fun _ _ _ h => h.elim, fun _ _ h => h.elim, fun _ h => h, fun t t' z p n m new z' n' m' new' h1 _ => ?_⟩
  · obtain ⟨v, hv, hR⟩ := h.get.2 t x hx
    exact ⟨v, by simpa using hv, .tree (hR.frame (fun _ _ => rfl) (fun _ h => h) (fun _ _ h => h.elim) (fun _ _ => rfl))⟩
  · have := List.all_eq_true.1 hp _ (List.mem_of_getElem? h1)
    cases this
theorem Con.walkA {f : FuncId} {ys : List AV} {vs : List Value} {outs : List (Option AV)} {r : Value} (hc : Con P f ys outs (.lit r)) (w : World) (h : ArgsR w ys vs) (hp : ys.all (fun y => match y with | .pend .. => false | _ => true) = true) :
    Calls P f vs.toArray w fun e w' => e = .returned r ∧ Grown w w' ∧ ∀ i : Nat, i < w.heap.size → w'.heap[i]? = w.heap[i]? := by
  have := hc.2 w _ vs _ h.get.1.symm (h.sr hp)
  refine this.mono ?_
  rintro e w' ⟨v, I', Fs', rfl, hS, hst⟩
  obtain ⟨u, hu, hR⟩ := hS.rel outs.length (.lit r) (by simp [outG])
  have hl : outs.length = vs.length := by rw [hc.1]; exact h.get.1
  have huv : u = v := by
    rw [hl] at hu
    simpa using hu.symm
  subst huv
  have hv := (hR.isTree (by simp)).inv_lit.1
  subst hv
  have hb : ∀ i : Nat, i < w.heap.size → w'.heap[i]? = w.heap[i]? := fun i hi => hst.fr.block i hi fun ⟨_, h⟩ => h
  refine ⟨rfl, ⟨⟨hst.fr.os, hst.fr.output, fun i hi => ?_⟩, hst.fr.fz, hst.fr.size⟩, hb⟩
  rw [hb i hi]
  exact (World.keptBut_refl w (fun _ => False)).2.2 i hi
theorem trodAll_old {H : Type} {enc : TypeId × Value → H} {w w' : World} {base : Nat} {sp : Nat → Bool} {held : Bool} (hb : ∀ i : Nat, i < w.heap.size → w'.heap[i]? = w.heap[i]?) :
    ∀ {ts : List TypeId} {vs : List Value} {ds : List (DataW H)} {ps : List MemPlace}, DataW.TrodAll enc P w base sp held ts vs ds ps → DataW.TrodAll enc P w' base sp held ts vs ds ps
  | [], [], [], _, h => h
  | _ :: _, _ :: _, _ :: _, _, ⟨p, q, ⟨n, hn⟩, h2, e⟩ => by
    refine ⟨p, q, ⟨n, DataW.trod_carry n _ _ _ hn fun x hx => ?_⟩, trodAll_old hb h2, e⟩
    have hlt := DataW.trod_lt n _ _ _ hn x hx
    cases x with
    | cell b off =>
      show w'.cell? _ = w.cell? _
      exact World.cell?_of_block (hb b hlt)
    | map b => exact hb b hlt
theorem args_again {H : Type} {enc : TypeId × Value → H} {w w' : World} (hl : laidOutB P = true) (hm : mapsRowed P = true)
    (hz : ((List.range P.types.size).all fun t => match P.underlying t with | some (.slice e) => decide (0 < P.cellsOf e) | _ => true) = true)
    (hb : ∀ i : Nat, i < w.heap.size → w'.heap[i]? = w.heap[i]?) {ts : List TypeId} {vs : List Value} {ds : List (DataW H)} {ps : List MemPlace} (ht : ts.all (fun t => decide (t < P.types.size)) = true)
    (h : DataW.TrodAll enc P w 0 (fun _ => true) true ts vs ds ps) {sp : Nat → Bool} (hsp : ∀ p ∈ ps, sp p.block = true) : DataW.TrodAll enc P w' 0 sp true ts vs ds ps :=
  (trodAll_old hb h).respare (kids_rows hl hm) (slices_full_of P hz) (fun t h => of_decide_eq_true (List.all_eq_true.1 ht t h)) hsp
end Go.Own
namespace Go.Own
open Go
section
variable {α β : Type} {P : Program} {N : Rm} {g g1 : Gst} {p : Place} {m : Int} {a b : Operand} {t : TypeId}
theorem AV.at_app1 : ∀ (l : List Nat) {x nd : AV} {k : Nat} {c : AV}, x.at l = some nd → nd.kids[k]? = some c → x.at (l ++ [k]) = some c
  | [], x, nd, k, c, h, hk => by
    simp only [AV.at, Option.some.injEq] at h
    subst h
    simp [AV.at, hk]
  | j :: l, x, nd, k, c, h, hk => by
    simp only [AV.at] at h
    cases hj : x.kids[j]? with
    | none => rw [hj] at h; cases h
    | some y =>
      rw [hj] at h
      simp only [List.cons_append, AV.at, hj]
      exact AV.at_app1 l h hk
theorem AV.setAt_app : ∀ (l : List Nat) {x nd : AV} {k : Nat} {c : AV} (y : AV), x.at l = some nd → nd.kids[k]? = some c → x.setAt (l ++ [k]) y = x.setAt l (nd.setKid k y)
  | [], x, nd, k, c, y, h, hk => by
    simp only [AV.at, Option.some.injEq] at h
    subst h
    simp [AV.setAt, hk]
  | j :: l, x, nd, k, c, y, h, hk => by
    simp only [AV.at] at h
    cases hj : x.kids[j]? with
    | none => rw [hj] at h; cases h
    | some z =>
      rw [hj] at h
      simp only [List.cons_append, AV.setAt, hj]
      rw [AV.setAt_app l y h hk]
theorem el_cell {en : En α} {L : List α} {yy : α} {o : Nat} {c : AV} (h : idx L m = some yy) (hc : (en.cells yy)[o]? = some c) : (oR en L).kids[m.toNat * en.z + o]? = some c := rowc_at en h hc
theorem atP_el {en : En α} {L : List α} {yy : α} {r o : Nat} {path : List Nat} {c : AV} (hp : atP g ⟨r, path⟩ = some (oR en L)) (h : idx L m = some yy) (hc : (en.cells yy)[o]? = some c) : atP g ⟨r, path ++ [m.toNat * en.z + o]⟩ = some c := by
  unfold atP at hp ⊢
  simp only at hp ⊢
  cases hx : g r with
  | none => rw [hx] at hp; cases hp
  | some x =>
    rw [hx] at hp
    exact AV.at_app1 path hp (el_cell h hc)
theorem setP_el {en : En α} {L : List α} {yy : α} {r o : Nat} {path : List Nat} {c : AV} (y : AV) (hp : atP g ⟨r, path⟩ = some (oR en L)) (h : idx L m = some yy) (hc : (en.cells yy)[o]? = some c) :
    setP g ⟨r, path ++ [m.toNat * en.z + o]⟩ y = setP g ⟨r, path⟩ (.own en.z L.length ((rowc en L).set (m.toNat * en.z + o) y)) := by
  funext s
  unfold setP
  simp only
  split
  · rename_i e
    subst e
    unfold atP at hp
    simp only at hp
    cases hx : g s with
    | none => rfl
    | some x =>
      rw [hx] at hp
      simp only [Option.map_some, Option.some.injEq]
      rw [AV.setAt_app path y hp (el_cell h hc)]
      rfl
  · rfl
theorem splice_set (l : List AV) (k : Nat) (x c : AV) : splice (l.set k x) k [c] = splice l k [c] := by
  unfold splice
  simp only [List.length_singleton]
  rw [List.take_set, List.drop_set]
  rw [List.set_eq_of_length_le (by simp; omega)]
  simp
theorem EO.stEP {o' : Oper} {en : En α} {en2 : En β} {L : List α} {yy y2 : α} {Ls M R : List β} {o s mm : Nat} {new new' : List AV} {x2 y0 : AV} {G2 : List (Nat × AV)}
    (ho : o'.op = .store t a b) (hd : o'.dst = none) (ha : Rd g a (.ptr p (m.toNat * en.z + o))) (hb : Rd g b (.brw en2.z ⟨s, []⟩ (Ls.length + mm)))
    (hps : g s = some (.pend en2.z ⟨p.root, p.path ++ [m.toNat * en.z + o]⟩ Ls.length mm new)) (hp : atP g p = some (oR en L)) (h : idx L m = some yy) (hcell : (en.cells yy)[o]? = some (oR en2 Ls)) (hq : Nat.beq p.root s = false)
    (h1 : TkL (setP (setP g ⟨s, []⟩ .dead) p (.own en.z L.length ((rowc en L).set (m.toNat * en.z + o) .dead))) new new' g1)
    (hfz : FzL new' (rowc en2 M)) (hm : M.length = mm) (hR : Ls ++ M = R) (hz : sizeT P t 1 = true)
    (hp1 : atP g1 p = some (.own en.z L.length ((rowc en L).set (m.toNat * en.z + o) .dead)))
    (he : splice (en.cells yy) o [oR en2 R] = en.cells y2) (hlen : Nat.ble (o + 1) en.z = true)
    (hx2 : setP g1 p (oR en (L.set m.toNat y2)) p.root = some x2) (hr : (get G2 p.root).isSome = true) (hy0 : g1 p.root = some y0) [hno : NRc y0] (hG : TrX g1 (get G2) p.root x2 G2) : EO P N g o' (get G2) := by
  subst hm hR
  have hlen' := Nat.le_of_ble_eq_true hlen
  have hsp := row_set en (cs' := [oR en2 (Ls ++ M)]) h he (by simpa using hlen')
  have hl2 : (L.set m.toNat y2).length = L.length := List.length_set
  have hqr := Nat.ne_of_beq_eq_false hq
  have hatq : atP g ⟨p.root, p.path ++ [m.toNat * en.z + o]⟩ = some (oR en2 Ls) := atP_el (g := g) (r := p.root) (path := p.path) hp h hcell
  have hpS : atP (setP g ⟨s, []⟩ .dead) p = some (oR en L) := by
    unfold atP at hp ⊢
    rw [setP_slot (p := ⟨s, []⟩) (fun e => hqr e)]; exact hp
  have ht : TkL g [.brw en2.z ⟨s, []⟩ (Ls.length + M.length)] [.own en2.z (Ls.length + M.length) (rowc en2 Ls ++ new')] g1 := by
    refine .pn hps hatq hq ?_ .nil
    rw [setP_el .dead (r := p.root) (path := p.path) hpS h hcell]
    exact h1
  have hk : m.toNat * en.z + o + 1 ≤ L.length * en.z := by
    obtain ⟨q0, q1, _⟩ := idx_spec h
    have h2 : m.toNat + 1 ≤ L.length := by omega
    calc m.toNat * en.z + o + 1 ≤ m.toNat * en.z + en.z := by omega
      _ = (m.toNat + 1) * en.z := by rw [Nat.add_mul]; omega
      _ ≤ L.length * en.z := Nat.mul_le_mul_right _ h2
  refine .store ho hd ha.opd hb.opd ht.take (y' := oR en2 (Ls ++ M)) ?_ rfl hz (p := p) (nd := .own en.z L.length ((rowc en L).set (m.toNat * en.z + o) .dead)) (z := en.z) (n := L.length) (cs := (rowc en L).set (m.toNat * en.z + o) .dead) hp1 (.inl rfl) ?_ (by simp) (fun t x hx => ?_) (fun t x hx y hy => ?_) (fun t z q n m new hx => ?_) (by intro e; rw [e] at hr; cases hr)
  · rw [← oR_app]; exact (hfz.pre _).own
  · simp only [List.length_singleton, List.length_set, rowc_len]; exact hk
  · have hnd : (AV.own en.z L.length ((rowc en L).set (m.toNat * en.z + o) .dead)).splice (m.toNat * en.z + o) [oR en2 (Ls ++ M)] = oR en (L.set m.toNat y2) := by
      show AV.own en.z L.length (splice ((rowc en L).set (m.toNat * en.z + o) .dead) (m.toNat * en.z + o) [oR en2 (Ls ++ M)]) = _
      unfold oR at hsp ⊢
      rw [splice_set, hsp, hl2]
    rw [hnd]
    rcases hG.spec t x hx with ⟨h1, h2, _⟩ | ⟨h1, h2, _⟩
    · rw [setP_slot h1]; exact h2
    · subst h1 h2; exact hx2
  · rcases hG.spec t x hx with ⟨h1, h2, h3⟩ | ⟨h1, h2, h3⟩
    · rw [h2] at hy; cases hy
      rcases h3 with h3 | ⟨h3, c2, rfl⟩
      · exact h3.rkq
      · refine RKp.ref (by cases h3; rfl) ⟨h3.ok1, h3.clear ?_, h3.ok2⟩
        intro e
        obtain ⟨pr, pp⟩ := p
        simp only at e
        subst e
        simp only [setP, if_true, hy0, Option.map_some, AV.setAt, Option.some.injEq] at hx2
        cases hx2
    · subst h1; rw [hy0] at hy; cases hy; exact .nr hno.nr
  · rcases hG.spec t _ hx with ⟨_, _, h3 | ⟨h3, _⟩⟩ | ⟨_, _, h3⟩
    · exact h3.np _ _ _ _ _ rfl
    · exact h3.np _ _ _ _ _ rfl
    · cases h3
end
end Go.Own
/- Short forms for printed walks. -/
namespace Go.Own
open Go
section
variable {P : Program} {N : Rm} {ops : Array Oper} {AT : List (List Nat)} {g g0 : Gst} {K : Gst → Prop} {l : List Oper} {acc : Acc} {d i : Nat} {op : Op} {ty : TypeId} {pos : String} {after : Array Edge} {x : AV}
theorem Rv (hp : PS P g op ty x) (hk : RunL P N ops l (upd g d x) K) (hN : N.ok d = true := by rfl) (hf : g d = none := by rfl) : RunL P N ops (⟨some d, op, ty, pos, after, none⟩ :: l) g K := .v hp hN hf .none hk
theorem Rc (hp : PC P g op x) (hk : RunL P N ops l (upd g d x) K) (hN : N.ok d = true := by rfl) (hf : g d = none := by rfl) : RunL P N ops (⟨some d, op, ty, pos, after, none⟩ :: l) g K := .c hp hN hf .none hk
theorem Dv (j0 : Nat) (hp : PS P (vis AT g0 j0 acc) op ty x) (hk : DL P N ops AT g0 i ((j0, d, some x) :: acc) l K) (hj : Nat.beq ops.size (j0 + l.length + 1) = true := by rfl) (hf : g0 d = none := by rfl) (hn : acc.all (fun e => !Nat.beq e.2.1 d) = true := by rfl) (hN : N.ok d = true := by rfl) :
    DL P N ops AT g0 i acc (⟨some d, op, ty, pos, after, none⟩ :: l) K := .v j0 hp hj hf hn hN .none hk
theorem Dc (j0 : Nat) (hp : PC P (vis AT g0 j0 acc) op x) (hk : DL P N ops AT g0 i ((j0, d, some x) :: acc) l K) (hj : Nat.beq ops.size (j0 + l.length + 1) = true := by rfl) (hf : g0 d = none := by rfl) (hn : acc.all (fun e => !Nat.beq e.2.1 d) = true := by rfl) (hN : N.ok d = true := by rfl) :
    DL P N ops AT g0 i acc (⟨some d, op, ty, pos, after, none⟩ :: l) K := .c j0 hp hj hf hn hN .none hk
end
instance {z n : Nat} {cs : List AV} : NPc (.own z n cs) := ⟨by simp⟩
def rn (a n : Nat) (l : List Nat) : List Nat := List.range' a n ++ l
end Go.Own
