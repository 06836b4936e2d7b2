/-
  What is proved here: parts of the proof that the last text states: rules for walks through code, and of this program's functions what they answer. No condition of their own.
-/
import Derived.ChangeAt
import Derived.ChangeOld
import Derived.ChangeSame
import Derived.Deep.Slices
import Derived.Ground.SlsfProg
import Derived.ReadAgain
import Derived.RowKit3
import Derived.Shelf.SlGeneric
import Derived.Shelf.SlSortCmp.NoneTotal
import Derived.Test.YtbhfhichpmffoaaRows
import Derived.WideShapes
import Derived.Test.YtbhfhichpmffoaaE2
namespace Go.Own
open Go
variable {α β : Type}
def eK (k : IntKind) : En Int := .one (fun n => .lit (.int k n)) fun _ => .lit
instance {k : IntKind} : Flat (eK k) := ⟨fun _ => rfl⟩
instance {k : IntKind} : Tw (eK k) (eK k) := ⟨rfl, fun a => (inferInstance : Vws [.lit (.int k a)] [.lit (.int k a)])⟩
instance {k : IntKind} : OOe (eK k) := ⟨fun a => (inferInstance : OOl [.lit (.int k a)])⟩
instance {cs : List AV} {n : Nat} {x : AV} [h : NRl cs] [hx : NRc x] : NRl (cs.set n x) := ⟨fun y hy => by
  rcases List.mem_or_eq_of_mem_set hy with h' | h'
  · exact h.nr y h'
  · rw [h']; exact hx.nr⟩
instance {x y : AV} [h : NRc y] : NRc (x.setAt [] y) := ⟨by simpa [AV.setAt] using h.nr⟩
inductive WkL : List AV → List AV → Prop
  | nil : WkL [] []
  | f {x : AV} {xs ys : List AV} (t : WkL xs ys) : WkL (x :: xs) (x :: ys)
  | o {z : Nat} {xs ys : List AV} (t : WkL xs ys) : WkL (.nils :: xs) (.own z 0 [] :: ys)
  | i {z : Nat} {xs ys : List AV} (t : WkL xs ys) : WkL (.nils :: xs) (.imm z 0 [] :: ys)
theorem WkL.len {xs ys : List AV} (h : WkL xs ys) : ys.length = xs.length := by
  induction h with
  | nil => rfl
  | f _ ih => simp [ih]
  | o _ ih => simp [ih]
  | i _ ih => simp [ih]
theorem WkL.get {xs ys : List AV} (h : WkL xs ys) : ∀ (k : Nat) (x y : AV), xs[k]? = some x → ys[k]? = some y → WkV x y := by
  induction h with
  | nil => intro k x y hx; simp at hx
  | f _ ih =>
    intro k a b ha hb
    cases k with
    | zero => simp at ha hb; subst ha hb; exact .refl
    | succ k => exact ih k a b (by simpa using ha) (by simpa using hb)
  | o _ ih =>
    intro k a b ha hb
    cases k with
    | zero => simp at ha hb; subst ha hb; exact .nilOwn
    | succ k => exact ih k a b (by simpa using ha) (by simpa using hb)
  | i _ ih =>
    intro k a b ha hb
    cases k with
    | zero => simp at ha hb; subst ha hb; exact .nilImm
    | succ k => exact ih k a b (by simpa using ha) (by simpa using hb)
theorem WkL.obj {xs ys : List AV} (h : WkL xs ys) : WkV (.obj xs) (.obj ys) := .obj h.len h.get
section
variable {P : Program} {N : Rm} {ops : Array Oper} {g g' g1 g2 : Gst} {K : Gst → Prop} {l : List Oper} {d r : Nat} {op : Op} {ty t t2 : TypeId} {pos : String} {after : Array Edge} {gd : Option (Nat × Bool)} {a b c : Operand} {p q : Place} {x y : AV} {k : IntKind} {m n : Int}
variable {AT : List (List Nat)} {g0 : Gst} {acc : Acc} {i : Nat}
def ndr : List Nat → Bool
  | [] => true
  | x :: l => l.all (fun y => !Nat.beq x y) && ndr l
theorem ndr_spec : ∀ {l : List Place}, ndr (l.map Place.root) = true → l.Nodup
  | [], _ => List.nodup_nil
  | p :: l, h => by
    simp only [List.map_cons, ndr, Bool.and_eq_true, List.all_eq_true] at h
    refine List.nodup_cons.2 ⟨fun hm => ?_, ndr_spec h.2⟩
    have := h.1 p.root (List.mem_map.2 ⟨p, hm, rfl⟩)
    simp at this
theorem DL.bp (j0 : Nat) {G G2 : List (Nat × AV)} {o : Oper} (he : EO P N (visG (get G) (fun _ => true) acc) o (get G2)) (hg : o.guard = none) (hpd : ndr ((acc.filterMap pendPlace).map Place.root) = true) (hp0 : npB G = true) (hj : Nat.beq ops.size (j0 + l.length + 1) = true)
    (ha : (List.range j0).all (fun k => (AT.getD j0 []).contains k) = true) (hb : (List.range ops.size).all (fun k => Nat.ble k j0 || (AT.getD k []).contains j0) = true) (hk : DL P N ops AT (get G2) (j0 + 1) [] l K) : DL P N ops AT (get G) i acc (o :: l) K := by
  intro U0 j hP hseg hdrop
  have := drop_at hdrop hj
  subst this
  obtain ⟨h1, h2⟩ := drop_cons hdrop
  obtain ⟨g', hr, hK⟩ := hk [] (j + 1) .nil .nil h2
  refine ⟨g', .bar0 hP hseg (ndr_spec hpd) (npB_spec hp0) h1 ?_ he ha ?_ hr, hK⟩
  · unfold Wanted; rw [hg]
  · refine List.all_eq_true.2 fun k hk => ?_
    have := List.all_eq_true.1 hb k hk
    simp only [Bool.or_eq_true, decide_eq_true_eq, Nat.ble_eq] at this ⊢
    exact this
theorem DL.bv (j0 : Nat) {G G2 : List (Nat × AV)} {o : Oper} {x : AV} (he : EO P N (visG (get G) (fun _ => true) acc) o (upd (get G2) d x)) (hg : o.guard = none) (hpd : ndr ((acc.filterMap pendPlace).map Place.root) = true) (hp0 : npB G = true) (hj : Nat.beq ops.size (j0 + l.length + 1) = true)
    (ha : (List.range j0).all (fun k => (AT.getD j0 []).contains k) = true) (hb : (List.range ops.size).all (fun k => Nat.ble k j0 || (AT.getD k []).contains j0) = true) (hk : DL P N ops AT (get ((d, x) :: G2)) (j0 + 1) [] l K) : DL P N ops AT (get G) i acc (o :: l) K :=
  .bp j0 (get_cons ▸ he) hg hpd hp0 hj ha hb hk
class NoPe (s : Nat) (g : Gst) : Prop where np : ∀ t, t ≠ s → ∀ z q n m new, g t ≠ some (.pend z q n m new)
instance (priority := low) {s : Nat} {g : Gst} [h : NoPd g] : NoPe s g := ⟨fun t _ => h.np t⟩
instance {s : Nat} {g : Gst} {x : AV} [h : NoPe s g] : NoPe s (upd g s x) := ⟨fun t ht z q n m new e => by
  unfold upd at e
  rw [if_neg ht] at e
  exact h.np t ht _ _ _ _ _ e⟩
instance {s d : Nat} {g : Gst} {x : AV} [h : NoPe s g] [hx : NPc x] : NoPe s (upd g d x) := ⟨fun t ht z q n m new e => by
  unfold upd at e
  split at e
  · cases e; exact hx.np _ _ _ _ _ rfl
  · exact h.np t ht _ _ _ _ _ e⟩
class NPe (s : Nat) (acc : Acc) : Prop where np : ∀ e ∈ acc, e.2.1 ≠ s → ∀ z q n m new, e.2.2 ≠ some (.pend z q n m new)
instance {s : Nat} : NPe s [] := ⟨by simp⟩
instance {s j d : Nat} {x : AV} {acc : Acc} [hx : NPc x] [h : NPe s acc] : NPe s ((j, d, some x) :: acc) := ⟨fun e he hs z q n m new hh => by
  rcases List.mem_cons.1 he with rfl | he
  · exact hx.np z q n m new (Option.some.inj hh)
  · exact h.np e he hs z q n m new hh⟩
instance {s j : Nat} {x : Option AV} {acc : Acc} [h : NPe s acc] : NPe s ((j, s, x) :: acc) := ⟨fun e he hs z q n m new hh => by
  rcases List.mem_cons.1 he with rfl | he
  · exact absurd rfl hs
  · exact h.np e he hs z q n m new hh⟩
instance {s : Nat} {G : List (Nat × AV)} {A : Nat → Bool} {acc : Acc} [hg : NoPd (get G)] [h : NPe s acc] : NoPe s (visG (get G) A acc) := ⟨fun t ht z q n m new e => by
  rcases visG_some e with ⟨e', he, h1, _, h2⟩ | ⟨_, h2⟩
  · exact h.np e' he (by rw [h1]; exact ht) _ _ _ _ _ h2
  · exact hg.np _ _ _ _ _ _ h2⟩
namespace O
theorem bsL {e nn : Nat} {parts : Array (Nat × Operand)} {ys cs : List AV} {z : Nat} (ht : slT P t e z = true) (hx : opds g (parts.toList.map (·.2)) = some ys) (hc : boxAll ys = some cs) (hz : ys.all (fun y => match boxCells y with | some c => Nat.beq c.length z | none => false) = true)
    (hp : parts.toList = (parts.toList.map (·.2)).mapIdx (fun i x => (i, x))) (hn : (parts.toList.map (·.2)).length = nn) (hzero : zeroT P e z = true) (hb : Nat.ble (nn * z) 16777216 = true) (hb2 : Nat.ble nn 16777216 = true) : PS P g (.buildSlice t nn parts) ty (.own z nn cs) := by
  subst hn
  exact .p2 (.buildSlice ht hp hx (fun y hy => by
    have := List.all_eq_true.1 hz y hy
    cases hc' : boxCells y with
    | none => rw [hc'] at this; cases this
    | some c => rw [hc'] at this; exact ⟨c, rfl, Nat.eq_of_beq_eq_true this⟩) hc (Nat.le_of_ble_eq_true hb) (Nat.le_of_ble_eq_true hb2) (.inr (zeroT_spec hzero)))
theorem src_lit {z m : Nat} {cs : List AV} (hq : atP g q = some (.own z m cs)) (hl : cs.length = m * z) (hf : cs.all flatB = true) : Src g (.brw z q m) z m cs := by
  have := Src.brw (g := g) (m := m) hq (Nat.le_refl _)
  rw [List.take_of_length_le (by omega), flat_map (q := fun i => _) hf] at this
  exact this
theorem apL {en : En α} {L M r : List α} {e b0 m : Nat} {cs : List AV} (hs : Rd g a (.brw en.z p L.length)) (hp : atP g p = some (oR en L)) (hx : Rd g b (.brw en.z q m)) (hq : atP g q = some (.own en.z m cs)) (hl : cs.length = m * en.z) (hf : cs.all flatB = true) (hm : M.length = m) (ht : appT P t e en.z b0 = true) (hb : Nat.ble b0 128 = true) (h : appO L M = some r) [hno : NoPd g] :
    PS P g (.call { callee := .builtin .append, args := #[a, b], argTypes := #[t, t] }) ty (.pend en.z p L.length m cs) := by
  subst hm
  obtain ⟨h1, h2, _⟩ := app_bound h hb
  exact .pa (.grow hs.opd (.inl ⟨_, hp⟩) (fun t z' n' m' new' e => hno.np _ _ _ _ _ _ e) hx.opd (src_lit hq hl hf) ht h1 h2)
theorem mk {en : En α} {z0 : α} {r : List α} {e b0 : Nat} {zv : Value} (ht : slT P t e en.z = true) (hx : Rd g a (.lit (.int k m))) (hy : Rd g b (.lit (.int .i64 m))) (hzero : (P.info? e).bind (·.zero) = some zv) (h1 : zv.cells.toList.all Value.oneCell' = true) (hc : zv.cells.toList.map ofCell = en.cells z0) (h : mkO m z0 = some r) (hbb : (P.info? e).map (·.bytes) = some b0) (hb : Nat.ble b0 128 = true) :
    PS P g (.makeSlice t a b) ty (oR en r) := by
  unfold mkO at h
  split at h
  · rename_i hm
    have hlim : lim = 1099511627776 := rfl
    have hb' := Nat.le_of_ble_eq_true hb
    obtain ⟨j, rfl⟩ := Int.eq_ofNat_of_zero_le hm.1
    cases h
    have hj : j ≤ 1099511627776 := by omega
    have hsz : zv.cells.size = en.z := by
      have := congrArg List.length hc
      rw [List.length_map, en.len] at this
      simpa using this
    have := PS2.makeSlice (P := P) (ty := ty) ht hx.opd hy.opd hzero (by rw [← Array.all_toList]; exact h1) hsz hbb (by
      calc j * b0 ≤ 1099511627776 * 128 := Nat.mul_le_mul hj hb'
        _ = 140737488355328 := by decide) (by omega)
    rw [hc] at this
    have e1 : (List.replicate j (en.cells z0)).flatten = rowc en (List.replicate j z0) := by simp [rowc, List.flatMap_def]
    unfold oR
    rw [Int.toNat_natCast, List.length_replicate, ← e1]
    exact .p2 this
  · cases h
end O
theorem row_set (en : En α) {L : List α} {y y2 : α} {o : Nat} {cs' : List AV} (h : idx L m = some y) (he : splice (en.cells y) o cs' = en.cells y2) (hlen : o + cs'.length ≤ en.z) : splice (rowc en L) (m.toNat * en.z + o) cs' = rowc en (L.set m.toNat y2) := by
  obtain ⟨h0, h1, h2⟩ := idx_spec h
  have hlt : m.toNat < L.length := (List.getElem?_eq_some_iff.1 h2).1
  have hy : L[m.toNat] = y := (List.getElem?_eq_some_iff.1 h2).2
  have e1 : rowc en L = rowc en (L.take m.toNat) ++ (en.cells y ++ rowc en (L.drop (m.toNat + 1))) := by
    have := congrArg (rowc en) (List.take_append_drop m.toNat L).symm
    rw [rowc_app, List.drop_eq_getElem_cons hlt, hy] at this
    rw [this]; simp [rowc]
  have e2 : rowc en (L.set m.toNat y2) = rowc en (L.take m.toNat) ++ (en.cells y2 ++ rowc en (L.drop (m.toNat + 1))) := by
    have : L.set m.toNat y2 = L.take m.toNat ++ y2 :: L.drop (m.toNat + 1) := by
      rw [List.set_eq_take_append_cons_drop, if_pos hlt]
    rw [this, rowc_app]; simp [rowc]
  have hl : (rowc en (L.take m.toNat)).length = m.toNat * en.z := by rw [rowc_len, List.length_take]; congr 1; omega
  rw [e1, e2, ← he]
  unfold splice
  generalize rowc en (L.take m.toNat) = A at *
  generalize rowc en (L.drop (m.toNat + 1)) = B at *
  rw [← hl]
  have hyl := en.len y
  rw [List.take_append, List.take_of_length_le (by omega), show A.length + o - A.length = o by omega, List.take_append_of_le_length (by omega)]
  rw [List.drop_append, List.drop_eq_nil_of_le (by omega), show A.length + o + cs'.length - A.length = o + cs'.length by omega, List.drop_append_of_le_length (by omega)]
  simp
theorem el_lt {en : En α} {L : List α} {i : Int} {off : Nat} {y : α} (h : idx L i = some y) (ho : Nat.blt off en.z = true) : i.toNat * en.z + off < (rowc en L).length := by
  obtain ⟨q0, q1, _⟩ := idx_spec h
  have ho' : off < en.z := by simpa using ho
  rw [rowc_len]
  have h2 : i.toNat + 1 ≤ L.length := by omega
  calc i.toNat * en.z + off < i.toNat * en.z + en.z := by omega
    _ = (i.toNat + 1) * en.z := by rw [Nat.add_mul]; omega
    _ ≤ L.length * en.z := Nat.mul_le_mul_right _ h2
inductive El (g g2 : Gst) : AV → Prop
  | mk {α : Type} {en : En α} {L L2 : List α} {r j off : Nat} {i : Int} {y y2 : α} (h1 : atP g ⟨r, [j]⟩ = some (oR en L)) (hi : idx L i = some y) (h2 : atP g2 ⟨r, [j]⟩ = some (oR en L2)) (hi2 : idx L2 i = some y2) (ho : Nat.blt off en.z = true) : El g g2 (.ptr ⟨r, [j]⟩ (i.toNat * en.z + off))
theorem El.ok1 {x : AV} (h : El g g2 x) : RefOk g x := by
  cases h with
  | mk h1 hi h2 hi2 ho => exact ⟨_, h1, _, _, _, .inl rfl, el_lt hi ho⟩
theorem El.ok2 {x : AV} (h : El g g2 x) : RefOk g2 x := by
  cases h with
  | mk h1 hi h2 hi2 ho => exact ⟨_, h2, _, _, _, .inl rfl, el_lt hi2 ho⟩
theorem El.rk {x : AV} (h : El g g2 x) : RK g2 x := by
  have := h.ok2
  cases h with
  | mk => exact .ref rfl this
theorem El.np {x : AV} (h : El g g2 x) : ∀ z p n m new, x ≠ .pend z p n m new := by
  cases h with
  | mk => simp
theorem El.clear {x : AV} {k0 m0 : Nat} (h : El g g2 x) (hp : p.path ≠ []) : Clear p k0 m0 x := by
  cases h with
  | mk =>
    intro q hq _ j r' e
    simp only [refPlace, Option.some.injEq] at hq
    subst hq
    cases hpp : p.path with
    | nil => exact absurd hpp hp
    | cons a b => rw [hpp] at e; simp at e
inductive TrX (g g2 : Gst) (r : Nat) (x2 : AV) : List (Nat × AV) → Prop
  | nil : TrX g g2 r x2 []
  | n {s : Nat} {x : AV} {l : List (Nat × AV)} (hne : Nat.beq s r = false) (h : g s = some x) [hn : NRc x] (t : TrX g g2 r x2 l) : TrX g g2 r x2 ((s, x) :: l)
  | p {s q k : Nat} {l : List (Nat × AV)} {cs ct : List AV} (hne : Nat.beq s r = false) (h : g s = some (.ptr ⟨q, []⟩ k)) (h1 : g q = some (.obj cs)) (hk : Nat.blt k cs.length = true) (h2 : g2 q = some (.obj ct)) (hk2 : Nat.blt k ct.length = true) (t : TrX g g2 r x2 l) : TrX g g2 r x2 ((s, .ptr ⟨q, []⟩ k) :: l)
  | e {s : Nat} {x : AV} {c2 : List AV} {l : List (Nat × AV)} (hne : Nat.beq s r = false) (h : g s = some x) (he : El g g2 x) (hx2 : x2 = .obj c2) (t : TrX g g2 r x2 l) : TrX g g2 r x2 ((s, x) :: l)
  | w {α : Type} {s q : Nat} {en : En α} {L : List α} {l : List (Nat × AV)} (hne : Nat.beq s r = false) (h : g s = some (.brw en.z ⟨q, []⟩ L.length)) (h1 : g q = some (oR en L)) (h2 : g2 q = some (oR en L)) (t : TrX g g2 r x2 l) : TrX g g2 r x2 ((s, .brw en.z ⟨q, []⟩ L.length) :: l)
  | b {l : List (Nat × AV)} {x : AV} (e : x = x2) [hn : NRc x2] (t : TrX g g2 r x2 l) : TrX g g2 r x2 ((r, x) :: l)
theorem TrX.spec {x2 : AV} {l : List (Nat × AV)} (h : TrX g g2 r x2 l) : ∀ t x, get l t = some x → (t ≠ r ∧ g t = some x ∧ (SK g g2 x ∨ El g g2 x ∧ ∃ c2, x2 = .obj c2)) ∨ (t = r ∧ x = x2 ∧ NR x) := by
  induction h with
  | nil => intro t x hx; cases hx
  | @n s x l hne h hn _ ih =>
    intro t y hy; simp only [get] at hy
    split at hy
    · rename_i e; subst e; cases hy; exact .inl ⟨Nat.ne_of_beq_eq_false hne, h, .inl (.n hn.nr)⟩
    · exact ih t y hy
  | @p s q k l cs ct hne h h1 hk h2 hk2 _ ih =>
    intro t y hy; simp only [get] at hy
    split at hy
    · rename_i e; subst e; cases hy; exact .inl ⟨Nat.ne_of_beq_eq_false hne, h, .inl (.p h1 (by simpa using hk) h2 (by simpa using hk2))⟩
    · exact ih t y hy
  | @e s x c2 l hne h he hx2 _ ih =>
    intro t y hy; simp only [get] at hy
    split at hy
    · rename_i e; subst e; cases hy; exact .inl ⟨Nat.ne_of_beq_eq_false hne, h, .inr ⟨he, _, hx2⟩⟩
    · exact ih t y hy
  | @w α s q en L l hne h h1 h2 _ ih =>
    intro t y hy; simp only [get] at hy
    split at hy
    · rename_i e; subst e; cases hy; exact .inl ⟨Nat.ne_of_beq_eq_false hne, h, .inl (.r h1 (Nat.le_refl _) h2 (Nat.le_refl _))⟩
    · exact ih t y hy
  | @b l x e hn _ ih =>
    intro t y hy; simp only [get] at hy
    split at hy
    · rename_i e'; subst e'; cases hy; subst e; exact .inr ⟨rfl, rfl, hn.nr⟩
    · exact ih t y hy
theorem SK.rkq {x : AV} {k0 m0 : Nat} (h : SK g g2 x) : RKp (fun r => RefOk g r ∧ Clear p k0 m0 r ∧ RefOk g2 r) x := by
  cases h with
  | n h => exact .nr h
  | p h hk h2 hk2 =>
    refine .ref rfl ⟨refOk_obj h hk, ?_, refOk_obj h2 hk2⟩
    intro q hq _ j r' e
    simp only [refPlace, Option.some.injEq] at hq
    subst hq
    simp at e
  | r h hk h2 hk2 =>
    refine .ref rfl ⟨refOk_own h hk, ?_, refOk_own h2 hk2⟩
    intro q hq _ j r' e
    simp only [refPlace, Option.some.injEq] at hq
    subst hq
    simp at e
theorem EO.stE {o' : Oper} {en : En α} {L : List α} {yy y2 : α} {o : Nat} {cs' : List AV} {x2 : AV} {G2 : List (Nat × AV)} (ho : o'.op = .store t a b) (hd : o'.dst = none) (ha : Rd g a (.ptr p (m.toNat * en.z + o))) (hb : Rd g b y) (hp : atP g p = some (oR en L)) (h : idx L m = some yy) (hz : sizeT P t cs'.length = true)
    (hc : cellsP y = some cs') (he : splice (en.cells yy) o cs' = en.cells y2) (hlen : Nat.ble (o + cs'.length) en.z = true) (h0 : Nat.blt 0 cs'.length = true) (hx2 : setP g p (oR en (L.set m.toNat y2)) p.root = some x2) (hr : (get G2 p.root).isSome = true) [hn : NRc y] {y0 : AV} (hy0 : g p.root = some y0) [hno : NRc y0] (hG : TrX g (get G2) p.root x2 G2) : EO P N g o' (get G2) := by
  have hlen' := Nat.le_of_ble_eq_true hlen
  have hsp := row_set en h he hlen'
  have hl2 : (L.set m.toNat y2).length = L.length := List.length_set
  refine .store ho hd ha.opd hb.opd (.nr (by simpa using hn.nr)) .refl hc hz (p := p) (nd := oR en L) (z := en.z) (n := L.length) (cs := rowc en L) hp (.inl rfl) ?_ (by simpa using h0) (fun t x hx => ?_) (fun t x hx y hy => ?_) (fun t z q n m new hx => ?_) (by intro e; rw [e] at hr; cases hr)
  · obtain ⟨q0, q1, _⟩ := idx_spec h
    rw [rowc_len]
    have h2 : m.toNat + 1 ≤ L.length := by omega
    calc m.toNat * en.z + o + cs'.length ≤ m.toNat * en.z + en.z := by omega
      _ = (m.toNat + 1) * en.z := by rw [Nat.add_mul]; omega
      _ ≤ L.length * en.z := Nat.mul_le_mul_right _ h2
  · have hnd : (oR en L).splice (m.toNat * en.z + o) cs' = oR en (L.set m.toNat y2) := by
      show AV.own en.z L.length (splice (rowc en L) (m.toNat * en.z + o) cs') = _
      unfold oR
      rw [hsp, hl2]
    rw [hnd]
    rcases hG.spec t x hx with ⟨h1, h2, _⟩ | ⟨h1, h2, _⟩
    · rw [setP_slot h1]; exact h2
    · subst h1 h2; exact hx2
  · rcases hG.spec t x hx with ⟨h1, h2, h3⟩ | ⟨h1, h2, h3⟩
    · rw [h2] at hy; cases hy
      rcases h3 with h3 | ⟨h3, c2, rfl⟩
      · exact h3.rkq
      · refine RKp.ref (by cases h3; rfl) ⟨h3.ok1, h3.clear ?_, h3.ok2⟩
        intro e
        obtain ⟨pr, pp⟩ := p
        simp only at e
        subst e
        simp only [setP, if_true, hy0, Option.map_some, AV.setAt, Option.some.injEq] at hx2
        cases hx2
    · subst h1; rw [hy0] at hy; cases hy; exact .nr hno.nr
  · rcases hG.spec t _ hx with ⟨_, _, h3 | ⟨h3, _⟩⟩ | ⟨_, _, h3⟩
    · exact h3.np _ _ _ _ _ rfl
    · exact h3.np _ _ _ _ _ rfl
    · cases h3
end
end Go.Own
namespace Go.Own
open Go
inductive Sh where
  | b | s | i (k : IntKind)
  deriving DecidableEq
end Go.Own
namespace Go.Own
open Go
section
variable {P : Program} {g : Gst} {t t2 : TypeId} {ty : TypeId} {a b : Operand}
namespace O
end O
end
end Go.Own
namespace Go.Own
open Go
section
variable {P : Program} {N : Rm} {g g2 : Gst} {d r k0 : Nat} {α : Type}
theorem View.p0 {p : Place} {cs cs' : List AV} (hp : atP g p = some (.obj cs)) (hk : Nat.blt 0 cs.length = true) [h : Vws cs cs'] : View g (.ptr p 0) (.iptr cs') :=
  .ptr hp (z := 0) (n := 0) (.inr rfl) (by simpa using hk) (by simpa using h.l) fun k x y hx hy => h.v g k x y (by simpa using hx) hy
theorem RK.el {en : En α} {L : List α} {j off : Nat} {i : Int} {y : α} (h2 : atP g2 ⟨r, [j]⟩ = some (oR en L)) (hi : idx L i = some y) (ho : Nat.blt off en.z = true) : RK g2 (.ptr ⟨r, [j]⟩ (i.toNat * en.z + off)) :=
  (El.mk (g := g2) h2 hi h2 hi ho).rk
theorem npPtr {p : Place} {k : Nat} : ∀ z q n m new, AV.ptr p k ≠ .pend z q n m new := by simp
inductive BkE (g : Gst) (d r k0 : Nat) (G4 : List (Nat × AV)) : List (Nat × AV) → Prop
  | nil : BkE g d r k0 G4 []
  | c {α : Type} {en : En α} {L : List α} {s off : Nat} {i : Int} {y : α} {l : List (Nat × AV)} (h : g s = some (.ptr ⟨r, [k0]⟩ (i.toNat * en.z + off))) (hp : atP (get G4) ⟨r, [k0]⟩ = some (oR en L)) (hi : idx L i = some y) (ho : Nat.blt off en.z = true) (hd : Nat.beq s d = false) (h4 : get G4 s = none) (t : BkE g d r k0 G4 l) : BkE g d r k0 G4 ((s, .ptr ⟨r, [k0]⟩ (i.toNat * en.z + off)) :: l)
theorem BkE.spec {G4 l : List (Nat × AV)} (h : BkE g d r k0 G4 l) : ∀ t x, get l t = some x → get G4 t = none ∧ t ≠ d ∧ g t = some x ∧ ∃ m z n cs, x = .ptr ⟨r, [k0]⟩ m ∧ atP (get G4) ⟨r, [k0]⟩ = some (.own z n cs) ∧ m < cs.length := by
  induction h with
  | nil => intro t x hx; cases hx
  | @c α en L s off i y l h hp hi ho hd h4 _ ih =>
    intro t x hx; simp only [get] at hx
    split at hx
    · rename_i e; subst e; cases hx; exact ⟨h4, Nat.ne_of_beq_eq_false hd, h, _, _, _, _, rfl, hp, el_lt hi ho⟩
    · exact ih t x hx
theorem TrX.keep {g' : Gst} {x2 : AV} {G2 : List (Nat × AV)} (hG : TrX g (get G2) r x2 G2) (h1 : ∀ t, t ≠ r → g' t = g t) (h2 : g' r = some x2) : Keep g' (get G2) := by
  refine ⟨fun t x hx => ?_, fun t x hx => ?_, fun t z q n m new hx => ?_⟩
  · rcases hG.spec t x hx with ⟨a, b, _⟩ | ⟨rfl, rfl, _⟩
    · rw [h1 t a]; exact b
    · exact h2
  · rcases hG.spec t x hx with ⟨_, _, h3 | ⟨h3, _⟩⟩ | ⟨_, _, h3⟩
    · exact h3.rk
    · exact h3.rk
    · exact .nr h3
  · rcases hG.spec t _ hx with ⟨_, _, h3 | ⟨h3, _⟩⟩ | ⟨_, _, h3⟩
    · exact h3.np _ _ _ _ _ rfl
    · exact h3.np _ _ _ _ _ rfl
    · cases h3
theorem setP_box {cs : List AV} {y x : AV} (h : g r = some (.obj cs)) (hk : cs[k0]? = some x) : setP g ⟨r, [k0]⟩ y r = some (.obj (cs.set k0 y)) := by
  simp [setP, h, AV.setAt, AV.kids, hk, AV.setKid]
theorem EO.fr {o : Oper} {y : AV} {cs cs5 : List AV} {G1 G4 : Value → List (Nat × AV)} {c4 : Value → List AV} {G5 A : List (Nat × AV)} (hd : o.dst = some d) (hN : N.ok d = true) (hr : g r = some (.obj cs)) (hy : cs[k0]? = some y) [hyn : NRc y]
    (h1 : ∀ v, TrX g (get (G1 v)) r (.obj (cs.set k0 (.lit v))) (G1 v)) (hc : ∀ v, CallOk P N (get (G1 v)) o d (get (G4 v))) (h4r : ∀ v, get (G4 v) r = some (.obj (c4 v))) (h4k : ∀ v, (c4 v)[k0]? = some (.lit v)) (h4s : ∀ v, (c4 v).set k0 y = cs5)
    (h5 : ∀ v, TrX (get (G4 v)) (get G5) r (.obj cs5) G5) (h5r : atP (get G5) ⟨r, [k0]⟩ = some y) (hA : BkE g d r k0 G5 A) : EO P N g o (get (A ++ G5)) := by
  refine .call hd hN (CallOk.framed hr hy hyn.nr fun v hv => ⟨get (G1 v), get (G4 v), get G5, ?_, hc v, ?_, ?_, h5r, ?_⟩)
  · exact (h1 v).keep (fun t ht => setP_slot ht) (setP_box hr hy)
  · have := h4r v
    simp only [atP, this, AV.at, AV.kids, h4k v]
  · refine (h5 v).keep (fun t ht => setP_slot ht) ?_
    rw [setP_box (h4r v) (h4k v), h4s v]
  · refine ⟨fun t x h => ?_, fun t x h => ?_⟩
    · rw [get_app]
      cases hA' : get A t with
      | none => exact h
      | some z =>
        obtain ⟨q1, _⟩ := hA.spec t z hA'
        rw [q1] at h; cases h
    · rw [get_app] at h
      cases hA' : get A t with
      | none => rw [hA'] at h; exact .inl h
      | some z =>
        rw [hA'] at h
        cases h
        exact .inr (hA.spec t x hA')
end
end Go.Own
namespace Go.Own
open Go
section
variable {P : Program} {N : Rm} {ops : Array Oper} {g g1 gA : Gst} {K : Gst → Prop} {l : List Oper} {d r : Nat} {t : TypeId} {a b : Operand} {x y : AV}
variable {AT : List (List Nat)} {acc : Acc} {i : Nat}
theorem of_blt {a b : Nat} (h : Nat.blt a b = true) : a < b := by simpa using h
def neD : Option Nat → Nat → Bool
  | none, _ => true
  | some a, d => !Nat.beq a d
theorem neD_spec {o : Option Nat} {d : Nat} (h : neD o d = true) : o ≠ some d := by
  rintro rfl
  simp [neD] at h
inductive UL (P : Program) (N : Rm) (ops : Array Oper) (AT : List (List Nat)) (rs : Place → Prop) (gA g1 : Gst) (o : Oper) (U : Acc) : Acc → Prop
  | nil : UL P N ops AT rs gA g1 o U []
  | c {k d : Nat} {x : AV} {o' : Oper} {V : Acc} (hst : Stab rs gA g1 o x) (h1 : g1 d = none) (hne : neD o.dst d = true) (ho : ops[k]? = some o') (hod : o'.dst = some d) (hN : N.ok d = true) (hw : Wanted (visG g1 (fun m => (AT.getD k []).contains m) U) ops o' true)
      (hs : PS P (visG g1 (fun m => (AT.getD k []).contains m) U) o'.op o'.type x) (t : UL P N ops AT rs gA g1 o U V) : UL P N ops AT rs gA g1 o U ((k, d, some x) :: V)
theorem UL.spec {o : Oper} {U V : Acc} {rs : Place → Prop} (h : UL P N ops AT rs gA g1 o U V) : ∀ e ∈ V, (∃ x, e.2.2 = some x ∧ Stab rs gA g1 o x) ∧ (g1 e.2.1 = none ∧ o.dst ≠ some e.2.1) ∧ ∃ o', ops[e.1]? = some o' ∧ o'.dst = some e.2.1 ∧ N.ok e.2.1 = true ∧ StepOk P (visG g1 (fun m => (AT.getD e.1 []).contains m) U) ops o' e.2.2 := by
  induction h with
  | nil => intro e he; cases he
  | c hst h1 hne ho hod hN hw hs _ ih =>
    intro e he
    rcases List.mem_cons.1 he with rfl | he
    · exact ⟨⟨_, rfl, hst⟩, ⟨h1, neD_spec hne⟩, _, ho, hod, hN, .inl ⟨hw, .inl hs⟩⟩
    · exact ih e he
theorem DL.bu (j0 : Nat) {G G2 : List (Nat × AV)} {U : Acc} {o : Oper} {rs : List Nat} (he : EffV P N (rsV rs) (visG (get G) (fun m => (AT.getD j0 []).contains m) acc) o (get G2)) (hrs : rs.all (fun r => (get G r).isSome) = true) (hg : o.guard = none) (hpd : ndr ((acc.filterMap pendPlace).map Place.root) = true) (hp0 : npB G = true) (hj : Nat.beq ops.size (j0 + l.length + 1) = true)
    (hU : acc.filter (fun e => !(AT.getD j0 []).contains e.1) = U) (hul : UL P N ops AT (rsV rs) (visG (get G) (fun m => (AT.getD j0 []).contains m) acc) (get G2) o U U)
    (hb : (List.range ops.size).all (fun k => Nat.ble k j0 || (AT.getD k []).contains j0) = true) (hk : DL P N ops AT (get G2) (j0 + 1) U l K) : DL P N ops AT (get G) i acc (o :: l) K := by
  intro U0 j hP hseg hdrop
  have := drop_at hdrop hj
  subst this
  obtain ⟨h1, h2⟩ := drop_cons hdrop
  have hmem : ∀ e ∈ U, e ∈ acc := fun e he => by rw [← hU] at he; exact (List.mem_filter.1 he).1
  have hP1 : PendOk P N ops AT (get G2) (j + 1) U := ⟨fun e he => by have := (hseg.le hP).2 e (hmem e he); omega, fun e he => (hul.spec e he).2.1.1, by rw [← hU]; exact (List.filter_sublist.map _).nodup (hseg.nodup hP), fun e he e' he' h => hseg.uniq hP (hmem e he) (hmem e' he') h, fun e he => (hul.spec e he).2.2⟩
  obtain ⟨g', hr, hK⟩ := hk U (j + 1) hP1 .nil h2
  refine ⟨g', .bar hseg (ndr_spec hpd) (npB_spec hp0) h1 ?_ he (fun r hr e => by have := List.all_eq_true.1 hrs r.root hr; rw [e] at this; cases this) hU.symm (fun e h => (hul.spec e h).1) (fun e h => (hul.spec e h).2.1) (fun e h => (hul.spec e h).2.2) ?_ hr, hK⟩
  · unfold Wanted; rw [hg]
  · refine List.all_eq_true.2 fun k hk => ?_
    have := List.all_eq_true.1 hb k hk
    simp only [Bool.or_eq_true, decide_eq_true_eq, Nat.ble_eq] at this ⊢
    exact this
theorem DL.bz (j0 : Nat) {G G2 : List (Nat × AV)} {U : Acc} {o : Oper} {ps : List Place} (he : EffV P N (fun p => p ∈ ps) (visG (get G) (fun m => (AT.getD j0 []).contains m) acc) o (get G2)) (hrs : ps.all (fun r => (get G r.root).isSome) = true) (hg : o.guard = none) (hpd : ndr ((acc.filterMap pendPlace).map Place.root) = true) (hp0 : npB G = true) (hj : Nat.beq ops.size (j0 + l.length + 1) = true)
    (hU : acc.filter (fun e => !(AT.getD j0 []).contains e.1) = U) (hul : UL P N ops AT (fun p => p ∈ ps) (visG (get G) (fun m => (AT.getD j0 []).contains m) acc) (get G2) o U U)
    (hb : (List.range ops.size).all (fun k => Nat.ble k j0 || (AT.getD k []).contains j0) = true) (hk : DL P N ops AT (get G2) (j0 + 1) U l K) : DL P N ops AT (get G) i acc (o :: l) K := by
  intro U0 j hP hseg hdrop
  have := drop_at hdrop hj
  subst this
  obtain ⟨h1, h2⟩ := drop_cons hdrop
  have hmem : ∀ e ∈ U, e ∈ acc := fun e he => by rw [← hU] at he; exact (List.mem_filter.1 he).1
  have hP1 : PendOk P N ops AT (get G2) (j + 1) U := ⟨fun e he => by have := (hseg.le hP).2 e (hmem e he); omega, fun e he => (hul.spec e he).2.1.1, by rw [← hU]; exact (List.filter_sublist.map _).nodup (hseg.nodup hP), fun e he e' he' h => hseg.uniq hP (hmem e he) (hmem e' he') h, fun e he => (hul.spec e he).2.2⟩
  obtain ⟨g', hr, hK⟩ := hk U (j + 1) hP1 .nil h2
  refine ⟨g', .bar hseg (ndr_spec hpd) (npB_spec hp0) h1 ?_ he (fun r hr e => by have := List.all_eq_true.1 hrs r hr; rw [e] at this; cases this) hU.symm (fun e h => (hul.spec e h).1) (fun e h => (hul.spec e h).2.1) (fun e h => (hul.spec e h).2.2) ?_ hr, hK⟩
  · unfold Wanted; rw [hg]
  · refine List.all_eq_true.2 fun k hk => ?_
    have := List.all_eq_true.1 hb k hk
    simp only [Bool.or_eq_true, decide_eq_true_eq, Nat.ble_eq] at this ⊢
    exact this
theorem EffV.box {o : Oper} {r : Nat} {x : AV} {G1 G2 : List (Nat × AV)} (he : EO P N (get G1) o (get G2)) (hr : g r = some x) [hx : NRc x] (hk : Trim false g (get G1) G1) (h0 : get G1 r = none) (h1 : get G2 r = none) (hd : neD o.dst r = true) : EffV P N (rsV [r]) g o (get ((r, x) :: G2)) := by
  rw [← get_cons]
  exact he.eff.frame hr hx.nr hk.keep h0 h1 (neD_spec hd)
theorem EO.sO {o : Oper} {k0 : Nat} {cs cs' cs2 : List AV} {G2 : List (Nat × AV)} (ho : o.op = .store t a b) (hd : o.dst = none) (hs : g r = some (.obj cs)) (ha : Rd g a (.ptr ⟨r, []⟩ k0)) (hb : Rd g b y) [hn : NRc y] (hc : cellsP y = some cs') (hz : sizeT P t cs'.length = true)
    (hk : Nat.ble (k0 + cs'.length) cs.length = true) (h0 : Nat.blt 0 cs'.length = true) (he : splice cs k0 cs' = cs2) [hno : NRl cs] (hr : (get G2 r).isSome = true) (hG : TrS g (get G2) r cs2 G2) : EO P N g o (get G2) :=
  .box ho hd hs ha hb hn.nr hc hz (Nat.le_of_ble_eq_true hk) (by simpa using h0) he (by intro e; rw [e] at hr; cases hr) hG
end
end Go.Own
namespace Go.Own
open Go
section
variable {α : Type}
theorem Vws.app {xs ys xs' ys' : List AV} (h : Vws xs ys) (h' : Vws xs' ys') : Vws (xs ++ xs') (ys ++ ys') := ⟨by simp [h.l, h'.l], fun g k a b ha hb => by
  by_cases hk : k < xs.length
  · rw [List.getElem?_append_left hk] at ha
    rw [List.getElem?_append_left (by rw [h.l]; exact hk)] at hb
    exact h.v g k a b ha hb
  · rw [List.getElem?_append_right (by omega)] at ha
    rw [List.getElem?_append_right (by rw [h.l]; omega), h.l] at hb
    exact h'.v g _ a b ha hb⟩
instance {e e' : En α} {L : List α} [h : Tw e e'] : Vws (rowc e L) (rowc e' L) := ⟨(vws_rowc e e' L).1, (vws_rowc e e' L).2⟩
theorem Vw.pn {en en' : En α} {L M : List α} {m : Nat} {new new' : List AV} [h : Tw en en'] (hn : rowc en' M = new') (hm : M.length = m) [h' : Vws new new'] : Vw (.own en.z (L.length + m) (rowc en L ++ new)) (iR en' (L ++ M)) := ⟨fun g => by
  subst hn hm
  have hv := Vws.app (inferInstance : Vws (rowc en L) (rowc en' L)) h'
  show View g (.own en.z (L.length + M.length) (rowc en L ++ new)) (.imm en'.z (L ++ M).length (rowc en' (L ++ M)))
  have e : rowc en' (L ++ M) = rowc en' L ++ rowc en' M := by simp [rowc]
  rw [e, List.length_append, ← h.z]
  exact .own hv.l (hv.v g)⟩
end
end Go.Own
namespace Go.Own
open Go
section
variable {α : Type} {g g2 : Gst} {p q : Place} {P : Program} {a b : Operand} {t : TypeId} {ty : TypeId}
theorem RK.brw {en : En α} {L : List α} (h : atP g2 p = some (oR en L)) : RK g2 (.brw en.z p L.length) := .ref rfl (.inl ⟨_, _, h, Nat.le_refl _⟩)
theorem npBrw {z n : Nat} : ∀ z' q n' m new, AV.brw z p n ≠ .pend z' q n' m new := by simp
namespace O
end O
end
end Go.Own
namespace Go.Own
open Go Go.RowKit Go.ChangeShapes Go.WideShapes Go.Deep
variable {α β σ : Type} {P : Program}
abbrev R0 (w : World) (y : AV) (u : Value) : Prop := R w (fun b => b < w.heap.size) (fun _ _ => False) y u (fun _ => False)
def RL (w : World) (ys : List AV) (cs : List Value) : Prop :=
  ys.length = cs.length ∧ ∀ (k : Nat) (y : AV) (u : Value), ys[k]? = some y → cs[k]? = some u → u.oneCell' = true ∧ R0 w y u
theorem RL.nil {w : World} : RL w [] [] := ⟨rfl, fun _ _ _ h => by simp at h⟩
theorem RL.one {w : World} {y : AV} {u : Value} (h1 : u.oneCell' = true) (h : R0 w y u) : RL w [y] [u] :=
  ⟨rfl, fun k y' u' hy hu => by
    cases k with
    | zero => simp at hy hu; subst hy hu; exact ⟨h1, h⟩
    | succ k => simp at hy⟩
theorem RL.app {w : World} {ys zs : List AV} {cs ds : List Value} (h : RL w ys cs) (h2 : RL w zs ds) : RL w (ys ++ zs) (cs ++ ds) := by
  refine ⟨by simp [h.1, h2.1], fun k y u hy hu => ?_⟩
  by_cases hk : k < ys.length
  · rw [List.getElem?_append_left hk] at hy
    rw [List.getElem?_append_left (h.1 ▸ hk)] at hu
    exact h.2 k y u hy hu
  · rw [List.getElem?_append_right (by omega)] at hy
    rw [List.getElem?_append_right (by have := h.1; omega), ← h.1] at hu
    exact h2.2 _ y u hy hu
structure Ar (P : Program) (e : En α) (t : TypeId) (ok : α → Prop) : Prop where
  z : P.cellsOf t = e.z
  go : ∀ {H : Type} {enc : TypeId × Value → H} {w : World} {n : Nat} {cs : List Value} {x : DataW H × List MemPlace},
    DataW.trod enc P w 0 (fun _ => true) true n t cs = some x → ∃ a, ok a ∧ RL w (e.cells a) cs
theorem Ar.int {e : En Int} {t : TypeId} {k : IntKind} (ht : P.underlying t = some (.int k)) (hz : P.cellsOf t = e.z) (he : ∀ n, e.cells n = [.lit (.int k n)]) :
    Ar P e t (fun n => (Lit.int k n).wf = true) := by
  refine ⟨hz, fun h => ?_⟩
  obtain ⟨n, rfl, _, hw⟩ := DataW.trod_int ht h
  exact ⟨n, hw, he n ▸ RL.one rfl (.lit rfl fun _ h => h)⟩
theorem Ar.bool {e : En Bool} {t : TypeId} (ht : P.underlying t = some .bool) (hz : P.cellsOf t = e.z) (he : ∀ n, e.cells n = [.lit (.bool n)]) :
    Ar P e t (fun _ => True) := by
  refine ⟨hz, fun h => ?_⟩
  obtain ⟨n, rfl, _⟩ := DataW.trod_bool ht h
  exact ⟨n, trivial, he n ▸ RL.one rfl (.lit rfl fun _ h => h)⟩
theorem rowc_nth (e : En α) (hz : 0 < e.z) : ∀ (l : List α) (k : Nat) (y : AV), (rowc e l)[k]? = some y → ∃ a, l[k / e.z]? = some a ∧ (e.cells a)[k % e.z]? = some y
  | [], k, y, h => by simp [rowc] at h
  | a :: l, k, y, h => by
    have he : rowc e (a :: l) = e.cells a ++ rowc e l := by simp [rowc]
    rw [he] at h
    by_cases hk : k < e.z
    · rw [List.getElem?_append_left (by rw [e.len]; exact hk)] at h
      exact ⟨a, by simp [Nat.div_eq_of_lt hk], by rw [Nat.mod_eq_of_lt hk]; exact h⟩
    · rw [List.getElem?_append_right (by rw [e.len]; omega), e.len] at h
      obtain ⟨b, h1, h2⟩ := rowc_nth e hz l (k - e.z) y h
      have hd : k / e.z = (k - e.z) / e.z + 1 := by rw [Nat.div_eq_sub_div hz (by omega)]
      refine ⟨b, by rw [hd]; simpa using h1, ?_⟩
      rw [Nat.mod_eq_sub_mod (by omega)]; exact h2
theorem Ar.slice {e : En α} {t te : TypeId} {ok : α → Prop} (h : Ar P e te ok) (ht : P.underlying t = some (.slice te)) (hz : P.cellsOf t = 1) (hpos : 0 < e.z) :
    Ar P (eM e) t (fun l => l.length ≤ maxLen ∧ ∀ x ∈ l, ok x) := by
  classical
  refine ⟨hz, fun {H enc w n cs x} hr => ?_⟩
  rcases open_slice ht hr with ⟨rfl, rfl⟩ | ⟨a, len, cap, m, n', D, Pl, rfl, hb, hl, hm, hmm, rfl, hx⟩
  · exact ⟨[], ⟨by simp, by simp⟩, RL.one rfl (.imm0 fun _ h => h)⟩
  · have hmc : m = cap := by simpa using hmm
    subst hmc
    have hex : ∀ i, i < len → ∃ q : α × List Value, ok q.1 ∧ RL w (e.cells q.1) q.2 ∧ w.cells? 0 (a.add (i * P.cellsOf te)) (P.cellsOf te) = some q.2 := fun i hi => by
      obtain ⟨cs', h1, h2⟩ := hx i (by omega)
      obtain ⟨b, hb1, hb2⟩ := h.go h2
      exact ⟨(b, cs'), hb1, hb2, h1⟩
    by_cases h0 : len = 0
    · subst h0
      exact ⟨[], ⟨by simp, by simp⟩, RL.one rfl (.imm0 fun _ h => h)⟩
    · obtain ⟨q0, _⟩ := hex 0 (by omega)
      haveI : Inhabited (α × List Value) := ⟨q0⟩
      obtain ⟨f, hf⟩ := choose_lt hex
      have hlen : ((List.range len).map fun i => (f i).1).length = len := by simp
      have hget : ∀ (i : Nat) (b : α), ((List.range len).map fun i => (f i).1)[i]? = some b → i < len ∧ b = (f i).1 := fun i b hi => by
        have hlt := (List.getElem?_eq_some_iff.1 hi).1
        simp at hlt
        simp [hlt] at hi
        exact ⟨hlt, hi.symm⟩
      have hsp : a.spot = none ∧ a.block < w.heap.size := by
        obtain ⟨_, _, h3⟩ := hf 0 (by omega)
        obtain ⟨_, hl3, h5⟩ := World.cells?_some h3
        have h6 := h5 0 (by rw [h.z]; exact hpos)
        simp only [Nat.zero_mul, Addr.add, if_true] at h6
        have : 0 < (f 0).2.length := by rw [hl3, h.z]; exact hpos
        rw [List.getElem?_eq_getElem this] at h6
        unfold World.cell? at h6
        split at h6
        · rename_i hh
          refine ⟨?_, (Array.getElem?_eq_some_iff.1 hh).1⟩
          cases hs : a.spot with
          | none => rfl
          | some s => simp [hs] at h6
        · cases h6
      have key : ∀ (k : Nat) (y : AV), (rowc e ((List.range len).map fun i => (f i).1))[k]? = some y → ∃ u, w.cell? ⟨a.block, a.off + k, none⟩ = some u ∧ u.oneCell' = true ∧ R0 w y u := fun k y hk => by
        obtain ⟨b, hb1, hb2⟩ := rowc_nth e hpos _ k y hk
        obtain ⟨hi, rfl⟩ := hget _ _ hb1
        obtain ⟨_, h2, h3⟩ := hf _ hi
        obtain ⟨_, hl3, h5⟩ := World.cells?_some h3
        have hmod : k % e.z < e.z := Nat.mod_lt _ hpos
        have h6 := h5 (k % e.z) (by rw [h.z]; exact hmod)
        rw [Deep.add_add, h.z] at h6
        have hk2 : k / e.z * e.z + k % e.z = k := by rw [Nat.mul_comm]; exact Nat.div_add_mod k e.z
        rw [hk2] at h6
        have hlt : k % e.z < (f (k / e.z)).2.length := by rw [hl3, h.z]; exact hmod
        rw [List.getElem?_eq_getElem hlt] at h6
        have ha : a.add k = ⟨a.block, a.off + k, none⟩ := by
          unfold Addr.add
          split
          · rename_i h00; subst h00; cases a; simp at hsp ⊢; exact hsp.1
          · rfl
        rw [ha] at h6
        exact ⟨_, h6, h2.2 _ _ _ hb2 (List.getElem?_eq_getElem hlt)⟩
      refine ⟨(List.range len).map fun i => (f i).1, ⟨by rw [hlen]; omega, fun y hy => ?_⟩, RL.one rfl ?_⟩
      · obtain ⟨i, hi, rfl⟩ := List.mem_map.1 hy
        exact (hf i (List.mem_range.1 hi)).1
      · show R0 w (.imm e.z _ _) _
        rw [hlen]
        refine .imm (us := fun k => (w.cell? ⟨a.block, a.off + k, none⟩).getD .nilFunc) (fun _ h => h) hl hsp.2 hsp.1 (by rw [rowc_len, hlen]) (fun k y hk => ?_) (fun k y hk => ?_) (fun k y hk => ?_)
        · obtain ⟨u, h1, h2, h3⟩ := key k y hk
          simp only [h1, Option.getD_some]; exact h2
        · obtain ⟨u, h1, h2, h3⟩ := key k y hk
          simp only [h1, Option.getD_some]
        · obtain ⟨u, h1, h2, h3⟩ := key k y hk
          simp only [h1, Option.getD_some]; exact h3
def fieldsB (P : Program) : Nat → List Field → List TypeId → Bool
  | _, [], [] => true
  | off, f :: fs, t :: ts => decide (f.type = t) && decide (f.offset = off) && fieldsB P (off + P.cellsOf t) fs ts
  | _, _, _ => false
def strB (P : Program) (t : TypeId) (ts : List TypeId) : Bool :=
  match P.underlying t with
  | some (.struct fs) => fieldsB P 0 fs.toList ts && decide (P.cellsOf t = (ts.map P.cellsOf).sum)
  | _ => false
structure ArL (P : Program) (cells : β → List AV) (ts : List TypeId) (ok : β → Prop) : Prop where
  go : ∀ {H : Type} {enc : TypeId × Value → H} {w : World} {n : Nat} {cs : List Value} {fs : List Field} {off : Nat}, fieldsB P off fs ts = true → cs.length = off + (ts.map P.cellsOf).sum →
    (∀ (i : Nat) (f : Field), fs[i]? = some f → ∃ x, DataW.trod enc P w 0 (fun _ => true) true n f.type ((cs.drop f.offset).take (P.cellsOf f.type)) = some x) →
    ∃ b, ok b ∧ RL w (cells b) (cs.drop off)
theorem ArL.nil : ArL P (fun _ : Unit => []) [] (fun _ => True) :=
  ⟨fun {H enc w n cs fs off} _ hl _ => ⟨(), trivial, by rw [List.drop_eq_nil_of_le (by simp at hl; omega)]; exact RL.nil⟩⟩
theorem ArL.cons {e : En α} {t : TypeId} {ts : List TypeId} {ok : α → Prop} {cells : β → List AV} {okl : β → Prop} (h : Ar P e t ok) (hl : ArL P cells ts okl) :
    ArL P (fun p : α × β => e.cells p.1 ++ cells p.2) (t :: ts) (fun p => ok p.1 ∧ okl p.2) := by
  refine ⟨fun {H enc w n cs fs off} hB hlen hr => ?_⟩
  cases fs with
  | nil => simp [fieldsB] at hB
  | cons f fs =>
    simp only [fieldsB, Bool.and_eq_true, decide_eq_true_eq] at hB
    obtain ⟨⟨rfl, rfl⟩, hB⟩ := hB
    obtain ⟨x, hx⟩ := hr 0 f rfl
    obtain ⟨a, ha, hR⟩ := h.go hx
    obtain ⟨b, hb, hRb⟩ := hl.go (off := f.offset + P.cellsOf f.type) (cs := cs) hB (by rw [hlen]; simp [Nat.add_assoc]) (fun i f' hf' => hr (i + 1) f' (by simpa using hf'))
    refine ⟨(a, b), ⟨ha, hb⟩, ?_⟩
    have : cs.drop f.offset = (cs.drop f.offset).take (P.cellsOf f.type) ++ cs.drop (f.offset + P.cellsOf f.type) := by
      rw [← List.drop_drop]; exact (List.take_append_drop _ _).symm
    rw [this]
    exact hR.app hRb
theorem Ar.struct {e : En σ} {t : TypeId} {ts : List TypeId} {cells : β → List AV} {ok : β → Prop} (h : ArL P cells ts ok) (mk : β → σ) (un : σ → β) (hun : ∀ b, un (mk b) = b) (hc : ∀ b, e.cells (mk b) = cells b) (ht : strB P t ts = true) (hz : P.cellsOf t = e.z) :
    Ar P e t (fun s => ok (un s)) := by
  refine ⟨hz, fun {H enc w n cs x} hr => ?_⟩
  unfold strB at ht
  split at ht
  · rename_i fs hu
    simp only [Bool.and_eq_true, decide_eq_true_eq] at ht
    obtain ⟨xs, n', rfl, rfl, hl, hxl, hx⟩ := DataW.trod_struct hu hr
    obtain ⟨b, hb, hR⟩ := h.go (w := w) (off := 0) (cs := cs) (fs := fs.toList) (n := n') (enc := enc) ht.1 (by rw [hl, ht.2]; simp) (fun i f hf => by
      have hf' : fs[i]? = some f := by simpa using hf
      have hi : i < xs.length := by rw [hxl]; exact (Array.getElem?_eq_some_iff.1 hf').1
      exact ⟨xs[i], by rw [hx i f hf', List.getElem?_eq_getElem hi]⟩)
    exact ⟨mk b, by rw [hun]; exact hb, by rw [hc]; simpa using hR⟩
  · cases ht
inductive ArgR (w : World) : AV → Value → Prop
  | mk {y : AV} {v : Value} (h : R0 w y v) : ArgR w y v
theorem Ar.one {e : En α} {t : TypeId} {ok : α → Prop} {g : α → AV} (h : Ar P e t ok) (he : ∀ a, e.cells a = [g a]) {H : Type} {enc : TypeId × Value → H} {w : World} {v : Value} {d : DataW H} {p : List MemPlace} (hv : v.cells.toList = [v])
    (ht : DataW.Trod enc P w 0 (fun _ => true) true t v d p) : ∃ a, ok a ∧ ArgR w (g a) v := by
  obtain ⟨n, hn⟩ := ht
  obtain ⟨a, ha, hR⟩ := h.go hn
  refine ⟨a, ha, .mk ?_⟩
  rw [hv, he] at hR
  exact (hR.2 0 _ _ rfl rfl).2
theorem Ar.oneS {e : En α} {t te : TypeId} {ok : List α → Prop} (h : Ar P (eM e) t ok) (hu : P.underlying t = some (.slice te)) {H : Type} {enc : TypeId × Value → H} {w : World} {v : Value} {d : DataW H} {p : List MemPlace} {base : Nat} (hv : Value.okWide P w .any base t v)
    (ht : DataW.Trod enc P w 0 (fun _ => true) true t v d p) : ∃ a, ok a ∧ ArgR w (iR e a) v := by
  obtain ⟨a, l, c, rfl⟩ := okWide_slice hu hv
  exact h.one (fun _ => rfl) rfl ht
theorem Ar.oneI {e : En Int} {t : TypeId} {k : IntKind} {ok : Int → Prop} {g : Int → AV} (h : Ar P e t ok) (he : ∀ a, e.cells a = [g a]) (hu : P.underlying t = some (.int k)) {H : Type} {enc : TypeId × Value → H} {w : World} {v : Value} {d : DataW H} {p : List MemPlace} {base : Nat} (hv : Value.okWide P w .any base t v)
    (ht : DataW.Trod enc P w 0 (fun _ => true) true t v d p) : ∃ a, ok a ∧ ArgR w (g a) v := by
  obtain ⟨n, rfl⟩ := okWide_int hu hv
  exact h.one he rfl ht
inductive ArgsR (w : World) : List AV → List Value → Prop
  | nil : ArgsR w [] []
  | cons {y : AV} {v : Value} {ys : List AV} {vs : List Value} (h : ArgR w y v) (hs : ArgsR w ys vs) : ArgsR w (y :: ys) (v :: vs)
theorem ArgsR.get {w : World} {ys : List AV} {vs : List Value} (h : ArgsR w ys vs) : ys.length = vs.length ∧ ∀ (k : Nat) (y : AV), ys[k]? = some y → ∃ v, vs[k]? = some v ∧ R0 w y v := by
  induction h with
  | nil => exact ⟨rfl, fun k y h => by simp at h⟩
  | cons h _ ih =>
    refine ⟨by simp [ih.1], fun k y hy => ?_⟩
    cases k with
    | zero =>
      simp at hy; subst hy
      obtain ⟨h⟩ := h
      exact ⟨_, rfl, h⟩
    | succ k => simpa using ih.2 k y (by simpa using hy)
theorem ArgsR.sr {w : World} {ys : List AV} {vs : List Value} (h : ArgsR w ys vs) (hp : ys.all (fun y => match y with | .pend .. => false | _ => true) = true) :
    SR w (fun b => b < w.heap.size) vs.toArray (argG ys) (fun _ => E0) := by
  refine ⟨fun t x hx => ?_, fun _ _ _ h => h, fun _ _ _ h => h.elim, fun _ _ h => h.elim, fun _ h => h, fun t t' z p n m new z' n' m' new' h1 _ => ?_⟩
  · obtain ⟨v, hv, hR⟩ := h.get.2 t x hx
    exact ⟨v, by simpa using hv, .tree (hR.frame (fun _ _ => rfl) (fun _ h => h) (fun _ _ h => h.elim) (fun _ _ => rfl))⟩
  · have := List.all_eq_true.1 hp _ (List.mem_of_getElem? h1)
    cases this
structure Kp (w w' : World) : Prop where
  kept : ∀ may : MemPlace → Prop, w.keptBut w' may
  fz : ∀ a, a.block < w.heap.size → w'.frozen? a = w.frozen? a
theorem Con.walkA {f : FuncId} {ys : List AV} {vs : List Value} {outs : List (Option AV)} {r : Value} (hc : Con P f ys outs (.lit r)) (w : World) (h : ArgsR w ys vs) (hp : ys.all (fun y => match y with | .pend .. => false | _ => true) = true) :
    Calls P f vs.toArray w fun e w' => e = .returned r ∧ Kp w w' ∧ ∀ i : Nat, i < w.heap.size → w'.heap[i]? = w.heap[i]? := by
  have := hc.2 w _ vs _ h.get.1.symm (h.sr hp)
  refine this.mono ?_
  rintro e w' ⟨v, I', Fs', rfl, hS, hst⟩
  obtain ⟨u, hu, hR⟩ := hS.rel outs.length (.lit r) (by simp [outG])
  have hl : outs.length = vs.length := by rw [hc.1]; exact h.get.1
  have huv : u = v := by
    rw [hl] at hu
    simpa using hu.symm
  subst huv
  have hv := (hR.isTree (by simp)).inv_lit.1
  subst hv
  have hb : ∀ i : Nat, i < w.heap.size → w'.heap[i]? = w.heap[i]? := fun i hi => hst.fr.block i hi fun ⟨_, h⟩ => h
  have hk : World.keptBut w w' (fun _ => False) := ⟨hst.fr.os, hst.fr.output, fun i hi => by
    rw [hb i hi]
    exact (World.keptBut_refl w (fun _ => False)).2.2 i hi⟩
  exact ⟨rfl, ⟨fun may => World.keptBut_mono (fun _ f => f.elim) hk, hst.fr.fz⟩, hb⟩
theorem trodAll_old {H : Type} {enc : TypeId × Value → H} {w w' : World} {base : Nat} {sp : Nat → Bool} {held : Bool} (hb : ∀ i : Nat, i < w.heap.size → w'.heap[i]? = w.heap[i]?) :
    ∀ {ts : List TypeId} {vs : List Value} {ds : List (DataW H)} {ps : List MemPlace}, DataW.TrodAll enc P w base sp held ts vs ds ps → DataW.TrodAll enc P w' base sp held ts vs ds ps
  | [], [], [], _, h => h
  | _ :: _, _ :: _, _ :: _, _, ⟨p, q, ⟨n, hn⟩, h2, e⟩ => by
    refine ⟨p, q, ⟨n, DataW.trod_carry n _ _ _ hn fun x hx => ?_⟩, trodAll_old hb h2, e⟩
    have hlt := DataW.trod_lt n _ _ _ hn x hx
    cases x with
    | cell b off =>
      show w'.cell? _ = w.cell? _
      exact World.cell?_of_block (hb b hlt)
    | map b => exact hb b hlt
theorem args_again {H : Type} {enc : TypeId × Value → H} {w w' : World} (hl : laidOutB P = true) (hm : mapsRowed P = true)
    (hz : ((List.range P.types.size).all fun t => match P.underlying t with | some (.slice e) => decide (0 < P.cellsOf e) | _ => true) = true)
    (hb : ∀ i : Nat, i < w.heap.size → w'.heap[i]? = w.heap[i]?) {ts : List TypeId} {vs : List Value} {ds : List (DataW H)} {ps : List MemPlace} (ht : ts.all (fun t => decide (t < P.types.size)) = true)
    (h : DataW.TrodAll enc P w 0 (fun _ => true) true ts vs ds ps) {sp : Nat → Bool} (hsp : ∀ p ∈ ps, sp p.block = true) : DataW.TrodAll enc P w' 0 sp true ts vs ds ps :=
  (trodAll_old hb h).respare (kids_rows hl hm) (slices_full_of P hz) (fun t h => of_decide_eq_true (List.all_eq_true.1 ht t h)) hsp
end Go.Own
namespace Go.Own
open Go
section
variable {α β : Type} {P : Program} {N : Rm} {g g1 : Gst} {p : Place} {m : Int} {a b : Operand} {t : TypeId}
theorem AV.at_app1 : ∀ (l : List Nat) {x nd : AV} {k : Nat} {c : AV}, x.at l = some nd → nd.kids[k]? = some c → x.at (l ++ [k]) = some c
  | [], x, nd, k, c, h, hk => by
    simp only [AV.at, Option.some.injEq] at h
    subst h
    simp [AV.at, hk]
  | j :: l, x, nd, k, c, h, hk => by
    simp only [AV.at] at h
    cases hj : x.kids[j]? with
    | none => rw [hj] at h; cases h
    | some y =>
      rw [hj] at h
      simp only [List.cons_append, AV.at, hj]
      exact AV.at_app1 l h hk
theorem el_cell {en : En α} {L : List α} {yy : α} {o : Nat} {c : AV} (h : idx L m = some yy) (hc : (en.cells yy)[o]? = some c) : (oR en L).kids[m.toNat * en.z + o]? = some c := rowc_at en h hc
theorem atP_el {en : En α} {L : List α} {yy : α} {r o : Nat} {path : List Nat} {c : AV} (hp : atP g ⟨r, path⟩ = some (oR en L)) (h : idx L m = some yy) (hc : (en.cells yy)[o]? = some c) : atP g ⟨r, path ++ [m.toNat * en.z + o]⟩ = some c := by
  unfold atP at hp ⊢
  simp only at hp ⊢
  cases hx : g r with
  | none => rw [hx] at hp; cases hp
  | some x =>
    rw [hx] at hp
    exact AV.at_app1 path hp (el_cell h hc)
end
end Go.Own
/- Short forms for printed walks. -/
namespace Go.Own
open Go
section
variable {P : Program} {N : Rm} {ops : Array Oper} {AT : List (List Nat)} {g g0 : Gst} {K : Gst → Prop} {l : List Oper} {acc : Acc} {d i : Nat} {op : Op} {ty : TypeId} {pos : String} {after : Array Edge} {x : AV}
theorem Rv (hp : PS P g op ty x) (hk : RunL P N ops l (upd g d x) K) (hN : N.ok d = true := by rfl) (hf : g d = none := by rfl) : RunL P N ops (⟨some d, op, ty, pos, after, none⟩ :: l) g K := .v hp hN hf .none hk
theorem Rc (hp : PC P g op x) (hk : RunL P N ops l (upd g d x) K) (hN : N.ok d = true := by rfl) (hf : g d = none := by rfl) : RunL P N ops (⟨some d, op, ty, pos, after, none⟩ :: l) g K := .c hp hN hf .none hk
theorem Dv (j0 : Nat) (hp : PS P (vis AT g0 j0 acc) op ty x) (hk : DL P N ops AT g0 i ((j0, d, some x) :: acc) l K) (hj : Nat.beq ops.size (j0 + l.length + 1) = true := by rfl) (hf : g0 d = none := by rfl) (hn : acc.all (fun e => !Nat.beq e.2.1 d) = true := by rfl) (hN : N.ok d = true := by rfl) :
    DL P N ops AT g0 i acc (⟨some d, op, ty, pos, after, none⟩ :: l) K := .v j0 hp hj hf hn hN .none hk
theorem Dc (j0 : Nat) (hp : PC P (vis AT g0 j0 acc) op x) (hk : DL P N ops AT g0 i ((j0, d, some x) :: acc) l K) (hj : Nat.beq ops.size (j0 + l.length + 1) = true := by rfl) (hf : g0 d = none := by rfl) (hn : acc.all (fun e => !Nat.beq e.2.1 d) = true := by rfl) (hN : N.ok d = true := by rfl) :
    DL P N ops AT g0 i acc (⟨some d, op, ty, pos, after, none⟩ :: l) K := .c j0 hp hj hf hn hN .none hk
end
instance {z n : Nat} {cs : List AV} : NPc (.own z n cs) := ⟨by simp⟩
def rn (a n : Nat) (l : List Nat) : List Nat := List.range' a n ++ l
end Go.Own
namespace Go.Own
open Go
section
variable {α : Type} {P : Program} {N : Rm} {g : Gst} {d r : Nat} {ty : TypeId}
instance {fn : Fn} {cs : List AV} [h : NRl cs] : NRc (.clo fn [] cs) := ⟨.clo (by simp) h.nr⟩
theorem O.mf {fn : Fn} {caps : List Operand} {b : List AV} (hb : Own.opds g caps = some b) : PS P g (.makeFunc fn #[] caps.toArray) ty (.clo fn [] b) := .p3 (.makeFunc rfl (by simpa using hb))
theorem View.cl {fn : Fn} {cs cs' : List AV} (h : VwL g cs cs') : View g (.clo fn [] cs) (.clo fn [] cs') := .clo h.len h.get
theorem PC.gc {c : Operand} {xs : List Operand} {tys : Array TypeId} {f : FuncId} {ys caps : List AV} {outs : List (Option AV)} {res : AV} (hc : Rd g c (.clo (.func f) [] caps)) (hx : Opds g xs ys) (hcon : Con P f (ys ++ caps) outs res) (hf : callT P f = true) (ho : noneB outs = true) [hcp : NRl caps] [hr : NRc res] :
    PC P g (.call { callee := .value c, args := xs.toArray, argTypes := tys }) res := by
  have e := noneB_map ho hcon.1
  refine .plain (first := []) (caps := caps) (ys := ys) hc.opd (by simpa using hx.spec.1) hf (fun y hy => ?_) ?_ hr.nr
  · rw [List.nil_append] at hy
    rcases List.mem_append.1 hy with h | h
    · exact hx.spec.2 y h
    · exact hcp.nr y h
  · rw [List.nil_append, ← e]; exact hcon
theorem CallOk.lv {o : Oper} {xs : List Operand} {tys : Array TypeId} {f : FuncId} {ys args : List AV} {res : AV} {en : En α} {L L' : List α} {G2 : List (Nat × AV)} (ho : o.op = .call { callee := .value (.func f), args := xs.toArray, argTypes := tys }) (hd : o.dst = some d) (hx : Own.opds g xs = some (.brw en.z ⟨r, []⟩ L.length :: ys))
    (hs : g r = some (oR en L)) (hv : VwL (get ((r, .dead) :: G2)) ys args) (hcon : Con P f (oR en L :: args) (some (oR en L') :: args.map fun _ => none) res) (hf : callT P f = true) [hr : OOc res] [hro : OOc (oR en L')]
    (hG : Trim false (setP g ⟨r, []⟩ .dead) (get ((r, .dead) :: G2)) G2) (hg : get G2 d = none) (hrd : Nat.beq r d = false) (hG4 : Trim false (get ((r, oR en L') :: G2)) (get ((r, oR en L') :: G2)) G2) (hN : N.ok d = true) :
    CallOk P N g o d (get ((d, res) :: (r, oR en L') :: G2)) := by
  have hrd' : r ≠ d := Nat.ne_of_beq_eq_false hrd
  have dead2 : get ((r, AV.dead) :: G2) r = some .dead := by simp [get]
  have hnr : ∀ x ∈ rowc en L, NR x := by
    intro x hx
    obtain ⟨a, _, ha⟩ := List.mem_flatMap.1 hx
    exact en.nr a x ha
  have htk : (rowc en L).take (L.length * en.z) = rowc en L := List.take_of_length_le (by rw [rowc_len]; exact Nat.le_refl _)
  have keep2 : Keep (setP g ⟨r, []⟩ .dead) (get ((r, .dead) :: G2)) := by
    refine ⟨fun t x h => ?_, fun t x h => ?_, fun t z q n m new h => ?_⟩
    all_goals
      simp only [get] at h
      split at h
    · rename_i e; subst e; cases h; simp [setP, hs, AV.setAt]
    · obtain ⟨⟨y, h1, _, h3⟩, _⟩ := hG.spec t x h; rw [← h3 rfl]; exact h1
    · cases h; exact .nr .dead
    · exact (hG.spec t x h).2.1
    · cases h
    · exact (hG.spec t _ h).2.2 _ _ _ _ _ rfl
  have put : putAll (get ((r, .dead) :: G2)) [(⟨r, []⟩, oR en L')] = get ((r, oR en L') :: G2) := by
    funext t
    simp only [putAll, setP, get]
    by_cases h : t = r
    · simp [h, AV.setAt]
    · simp [h]
  have keep4 : Keep (get ((r, oR en L') :: G2)) (get ((r, oR en L') :: G2)) := by
    refine ⟨fun t x h => h, fun t x h => ?_, fun t z q n m new h => ?_⟩
    all_goals
      simp only [get] at h
      split at h
    · cases h; exact .nr hro.oo.nr
    · exact (hG4.spec t x h).2.1
    · cases h
    · exact (hG4.spec t _ h).2.2 _ _ _ _ _ rfl
  have hl := hv.len
  have e5 : get ((d, res) :: (r, oR en L') :: G2) = upd (get ((r, oR en L') :: G2)) d res := by
    funext t
    rw [get_cons]
  rw [e5]
  refine ECall.ok (first := []) (caps := []) (ys := .brw en.z ⟨r, []⟩ L.length :: ys) (tk := fun k => k == 0) (vw := true) (outs := some (oR en L') :: args.map fun _ => none) (g1 := setP g ⟨r, []⟩ .dead) (g2 := get ((r, .dead) :: G2)) (g4 := get ((r, oR en L') :: G2)) (l := [(⟨r, []⟩, oR en L')]) (ks := fun _ => 0) (xs0 := .brw en.z ⟨r, []⟩ L.length :: ys.map fun _ => .dead) (xs1 := oR en L :: ys.map fun _ => .dead) (args := oR en L :: args) (res := res) ho hd rfl (by simpa using hx)
    ⟨hf, by simp, by simpa using hl, fun k x h => ?_, ?_, keep2, fun k x y hx hy => ?_, hcon, by simpa using hr.oo, fun k x h => ?_, fun j p x hj => ?_, by simp, fun i j hi hj _ => by simp at hi hj; omega, by rw [put]; exact keep4⟩ ?_ hN Bk.refl
  · simp only [List.nil_append, List.append_nil] at h
    cases k with
    | zero => exact .inl h
    | succ k =>
      refine .inr ?_
      simp only [List.getElem?_cons_succ] at h ⊢
      rw [List.getElem?_map, h]; rfl
  · have h1 : Take (setP g ⟨r, []⟩ .dead) ((rowc en L).take (L.length * en.z)) (rowc en L) (setP g ⟨r, []⟩ .dead) := by rw [htk]; exact .nr hnr
    refine .brw (N := L.length) (by simp [atP, hs, AV.at]) (Nat.le_refl _) h1 (.nr fun x hx => ?_)
    obtain ⟨_, _, rfl⟩ := List.mem_map.1 hx
    exact .dead
  · simp only [List.nil_append, List.append_nil] at hx
    cases k with
    | zero => simpa using hy
    | succ k =>
      simp only [List.getElem?_cons_succ] at hx hy
      exact ⟨rfl, hv.get k x y hx hy⟩
  · cases k with
    | zero => simp only [List.getElem?_cons_zero, Option.some.injEq] at h; subst h; exact hro.oo
    | succ k =>
      simp only [List.getElem?_cons_succ, List.getElem?_map] at h
      cases ha : args[k]? <;> rw [ha] at h <;> cases h
  · cases j with
    | succ j => simp at hj
    | zero =>
      simp only [List.getElem?_cons_zero, Option.some.injEq, Prod.mk.injEq] at hj
      obtain ⟨rfl, rfl⟩ := hj
      exact ⟨rfl, by simp [atP, dead2, AV.at], .inl ⟨en.z, L.length, rowc en L, rfl, by simp [atP, hs, AV.at]⟩⟩
  · simp only [get, if_neg (Ne.symm hrd')]; exact hg
end
end Go.Own
namespace Go.Own
open Go Go.Proofs Go.Shelf Go.Lib Go.Sort
section
variable {P : Program} {w : World}
def ordB {α : Type} [DecidableEq α] (lt : α → α → Bool) (l : List α) : Bool :=
  l.all fun a => !lt a a && l.all fun b => (lt a b || lt b a || decide (a = b)) && l.all fun c => (!(lt a b && lt b c) || lt a c) && (lt a b || lt b c || !lt a c)
def ltO {α : Type} (cf : α → α → Option Int) (a b : α) : Bool := decide ((cf a b).getD 0 < 0)
def ins {α : Type} (lt : α → α → Bool) (x : α) : List α → List α
  | [] => [x]
  | y :: l => if lt y x then y :: ins lt x l else x :: y :: l
def isort {α : Type} (lt : α → α → Bool) : List α → List α
  | [] => []
  | x :: l => ins lt x (isort lt l)
theorem ins_perm {α : Type} (lt : α → α → Bool) (x : α) : ∀ l : List α, (ins lt x l).Perm (x :: l)
  | [] => .refl _
  | y :: l => by
    unfold ins
    split
    · exact ((ins_perm lt x l).cons y).trans (.swap x y l)
    · exact .refl _
theorem isort_perm {α : Type} (lt : α → α → Bool) : ∀ l : List α, (isort lt l).Perm l
  | [] => .refl _
  | x :: l => (ins_perm lt x _).trans ((isort_perm lt l).cons x)
theorem ins_sorted {α : Type} {lt : α → α → Bool} (hS : SWO lt) (x : α) : ∀ l : List α, l.Pairwise (fun a b => (!lt b a) = true) → (ins lt x l).Pairwise fun a b => (!lt b a) = true
  | [], _ => List.pairwise_singleton _ _
  | y :: l, h => by
    obtain ⟨h1, h2⟩ := List.pairwise_cons.1 h
    unfold ins
    split
    · rename_i hlt
      refine List.pairwise_cons.2 ⟨fun z hz => ?_, ins_sorted hS x l h2⟩
      rcases List.mem_cons.1 ((ins_perm lt x l).mem_iff.1 hz) with rfl | hz
      · cases hc : lt z y with
        | false => rfl
        | true => have := hS.trans _ _ _ hlt hc; rw [hS.irrefl] at this; cases this
      · exact h1 z hz
    · rename_i hlt
      have hlt : lt y x = false := by simpa using hlt
      refine List.pairwise_cons.2 ⟨fun z hz => ?_, h⟩
      rcases List.mem_cons.1 hz with rfl | hz
      · rw [hlt]; rfl
      · have hz := h1 z hz
        simp only [Bool.not_eq_true'] at hz ⊢
        exact hS.ntrans _ _ _ hz hlt
theorem isort_sorted {α : Type} {lt : α → α → Bool} (hS : SWO lt) : ∀ l : List α, (isort lt l).Pairwise fun a b => (!lt b a) = true
  | [] => .nil
  | x :: l => ins_sorted hS x _ (isort_sorted hS l)
theorem isort_merge {α : Type} {lt : α → α → Bool} (hS : SWO lt) (hT : ∀ x y, lt x y = false → lt y x = false → x = y) (l : List α) : l.mergeSort (fun x y => !lt y x) = isort lt l := by
  refine List.Perm.eq_of_pairwise (le := fun x y => (!lt y x) = true) (fun a b _ _ h1 h2 => ?_) (List.pairwise_mergeSort (fun a b c h1 h2 => ?_) (fun a b => ?_) l) (isort_sorted hS l) ((List.mergeSort_perm _ _).trans (isort_perm lt l).symm)
  · simp only [Bool.not_eq_true'] at h1 h2
    exact hT a b h2 h1
  · simp only [Bool.not_eq_true'] at h1 h2 ⊢
    exact hS.ntrans _ _ _ h2 h1
  · cases h1 : lt b a with
    | false => rfl
    | true =>
      cases h2 : lt a b with
      | false => rfl
      | true => have := hS.trans _ _ _ h1 h2; rw [hS.irrefl] at this; cases this
theorem ins_map {α β : Type} {lt : α → α → Bool} {lt' : β → β → Bool} {f : α → β} (h : ∀ a b, lt a b = lt' (f a) (f b)) (x : α) : ∀ l : List α, (ins lt x l).map f = ins lt' (f x) (l.map f)
  | [] => rfl
  | y :: l => by
    simp only [ins, List.map_cons, h]
    split
    · rw [List.map_cons, ins_map h x l]
    · rfl
theorem isort_map {α β : Type} {lt : α → α → Bool} {lt' : β → β → Bool} {f : α → β} (h : ∀ a b, lt a b = lt' (f a) (f b)) : ∀ l : List α, (isort lt l).map f = isort lt' (l.map f)
  | [] => rfl
  | x :: l => by simp only [isort, List.map_cons, ins_map h, isort_map h l]
def sortO {α : Type} [DecidableEq α] (cf : α → α → Option Int) (l : List α) : Option (List α) :=
  if (l.all fun a => l.all fun b => (cf a b).isSome) && ordB (ltO cf) l && decide (l.length < 4611686018427387904) then some (isort (ltO cf) l) else none
theorem grow_of_fr {w' : World} (h : Fr w w' fun _ => False) : ∃ q os, w' = grow (w.drewN q) os := by
  refine ⟨w'.drawn - w.drawn, w'.heap.extract w.heap.size w'.heap.size, ?_⟩
  obtain ⟨h1, h2, h3, h4, h5, h6, h7⟩ := h
  obtain ⟨hp, tp, dr, os, out⟩ := w'
  simp only at h1 h2 h3 h4 h5 h7
  subst h1 h2 h3
  unfold grow World.drewN
  simp only [World.mk.injEq, true_and, and_true]
  refine ⟨?_, by omega⟩
  apply Array.ext_getElem?
  intro k
  rw [Array.getElem?_append]
  by_cases hk : k < w.heap.size
  · rw [if_pos hk]; exact h5 k hk fun h => h
  · rw [if_neg hk, Array.getElem?_extract]
    by_cases hk2 : k < hp.size
    · rw [if_pos (by omega), show w.heap.size + (k - w.heap.size) = k by omega]
    · rw [if_neg (by omega), Array.getElem?_eq_none (by omega)]
theorem rowc_int (l : List Int) : rowc eI l = l.map I64 := by
  induction l with
  | nil => rfl
  | cons a l ih =>
    show eI.cells a ++ rowc eI l = _
    rw [ih]; rfl
theorem sort_fin {vs : List Value} {v0 v1 : Value} (hvs : vs = [v0, v1]) {I : BSet} {Fs : Nat → BSet} {g : Gst} (hS : SR w I vs.toArray g Fs) {w' : World} {e : TypeId} {r : List Int} (ho : w'.ownsRow 0 e 1 v0 r.length (r.map (Value.int .i64))) (hF : ∀ c, Fs 0 c ↔ v0.ownBlock = some c) (hfr : Fr w w' fun c => Fs 0 c) :
    ∃ v I' Fs', Ending.returned (.tuple #[]) = .returned v ∧ SR w' I' (vs ++ [v]).toArray (outG [some (oR eI r), none] (.tup [])) Fs' ∧ St w I (fun c => ∃ t, Fs t c) w' I' (fun c => ∃ t, Fs' t c) := by
  subst hvs
  refine ⟨_, I, fun t => if t = 0 then Fs 0 else E0, rfl, ⟨fun t x hx => ?_, fun t ht c hc => ?_, fun t t' c hc hc' => ?_, fun t c hc => ?_, fun c hc => Nat.lt_of_lt_of_le (hS.lt c hc) hfr.size, fun t t' z p n m new z' n' m' new' h1 h2 => ?_⟩, ⟨?_, fun c h => h, fun c h => .inl h, fun c hc => ?_⟩⟩
  · unfold outG at hx
    split at hx
    · rename_i ht
      have ht : t = 2 := ht
      subst ht
      cases hx
      exact ⟨.tuple #[], rfl, .tree (.tup (Fs := fun _ => E0) rfl (fun k x u h => by simp at h) (fun j k c h => by simp at h) (fun c => ⟨fun h => h.elim, fun ⟨k, h, _⟩ => by simp at h⟩))⟩
    · match t, hx with
      | 0, hx =>
        cases hx
        refine ⟨v0, rfl, .tree ?_⟩
        show R w' I _ (.own 1 r.length (rowc eI r)) v0 (Fs 0)
        rw [rowc_int]
        refine .own (Fs := fun _ => E0) ho (by simp) (fun k u hu => ?_) (fun k x u hx hu => ?_) (fun _ _ _ _ _ h => h.elim) (fun _ _ _ h => h.elim) (fun c => ⟨fun h => .inl ((hF c).1 h), fun h => ?_⟩)
        · rw [List.getElem?_map] at hu
          cases hk : r[k]? <;> rw [hk] at hu <;> cases hu
          rfl
        · rw [List.getElem?_map] at hx hu
          cases hk : r[k]? <;> rw [hk] at hx hu <;> cases hx <;> cases hu
          exact .lit rfl fun _ h => h
        · rcases h with h | ⟨_, _, h⟩
          · exact (hF c).2 h
          · exact h.elim
      | 1, hx => cases hx
      | t + 2, hx => cases hx
  · have h0 : ¬ t = 0 := fun e => by subst e; exact absurd ht (by simp [outG])
    simp only [if_neg h0] at hc
    exact hc
  · have key : ∀ {t : Nat}, (if t = 0 then Fs 0 else E0) c → t = 0 := fun {t} h => by
      by_cases h0 : t = 0
      · exact h0
      · rw [if_neg h0] at h; exact h.elim
    rw [key hc, key hc']
  · by_cases h0 : t = 0
    · simp only [if_pos h0] at hc; exact hS.imm 0 c hc
    · simp only [if_neg h0] at hc; exact hc.elim
  · unfold outG at h1
    split at h1
    · cases h1
    · match t, h1 with
      | 0, h1 => cases h1
      | 1, h1 => cases h1
      | t + 2, h1 => cases h1
  · exact hfr.mono fun b _ hb => ⟨0, hb⟩
  · obtain ⟨t, ht⟩ := hc
    by_cases h0 : t = 0
    · simp only [if_pos h0] at ht; exact .inl ⟨0, ht⟩
    · simp only [if_neg h0] at ht; exact ht.elim
theorem ordB_spec {α : Type} [DecidableEq α] {lt : α → α → Bool} {l : List α} (h : ordB lt l = true) : ∀ a ∈ l, lt a a = false ∧ ∀ b ∈ l, (lt a b = true ∨ lt b a = true ∨ a = b) ∧ ∀ c ∈ l, ((lt a b = true ∧ lt b c = true) → lt a c = true) ∧ (lt a b = true ∨ lt b c = true ∨ lt a c = false) := by
  intro a ha
  unfold ordB at h
  have h1 := List.all_eq_true.1 h a ha
  simp only [Bool.and_eq_true, Bool.not_eq_true', List.all_eq_true, Bool.or_eq_true, decide_eq_true_eq] at h1
  refine ⟨h1.1, fun b hb => ?_⟩
  obtain ⟨h2, h3⟩ := h1.2 b hb
  refine ⟨by rcases h2 with (h | h) | h <;> simp [h], fun c hc => ?_⟩
  obtain ⟨h4, h5⟩ := h3 c hc
  refine ⟨fun ⟨x, y⟩ => ?_, by rcases h5 with (h | h) | h <;> simp [h]⟩
  rcases h4 with h | h
  · rw [x, y] at h; cases h
  · exact h
theorem sortO_spec {α : Type} [DecidableEq α] {cf : α → α → Option Int} {l r : List α} (h : sortO cf l = some r) : (∀ a ∈ l, ∀ b ∈ l, (cf a b).isSome = true) ∧ ordB (ltO cf) l = true ∧ l.length < 4611686018427387904 ∧ r = isort (ltO cf) l := by
  unfold sortO at h
  split at h
  · rename_i hc
    simp only [Bool.and_eq_true, List.all_eq_true, decide_eq_true_eq] at hc
    exact ⟨hc.1.1, hc.1.2, hc.2, (Option.some.inj h).symm⟩
  · cases h
theorem heap_sortWorld {α : Type} [Inhabited α] {enc : α → Value} {b n : Nat} {d : Array α} {os : Array Obj} {cur : Array Value} {e : TypeId} {fr : Nat × Nat} (hb : w.heap[b]? = some (.cells cur e fr)) :
    (sortWorld enc w b 0 n d os).heap[b]? = some (.cells (putCells enc 0 d cur) e fr) := by
  have hlt : b < w.heap.size := (Array.getElem?_eq_some_iff.1 hb).1
  unfold sortWorld
  rw [heap_grow_old _ _ (by rw [Go.Sort.size_putRow]; exact hlt)]
  unfold putRow mapBlock
  have ea : (Go.Sort.ahead w n).heap = w.heap := rfl
  simp only [ea, Array.getElem?_modify, if_true, hb, Option.map_some, onCells]
theorem heap_sortWorld_other {α : Type} [Inhabited α] {enc : α → Value} {b n c : Nat} {d : Array α} {os : Array Obj} (hc : c < w.heap.size) (hne : c ≠ b) :
    (sortWorld enc w b 0 n d os).heap[c]? = w.heap[c]? := by
  unfold sortWorld
  rw [heap_grow_old _ _ (by rw [Go.Sort.size_putRow]; exact hc)]
  unfold putRow mapBlock
  have ea : (Go.Sort.ahead w n).heap = w.heap := rfl
  simp only [ea, Array.getElem?_modify, if_neg (Ne.symm hne)]
theorem fr_sortWorld {α : Type} [Inhabited α] {enc : α → Value} {b n : Nat} {d : Array α} {os : Array Obj} {U : BSet} (hU : U b) : Fr w (sortWorld enc w b 0 n d os) U := by
  refine ⟨rfl, rfl, rfl, ?_, fun c hc hn => heap_sortWorld_other hc fun e => hn (e ▸ hU), fun a ha => ?_, ?_⟩
  · unfold sortWorld; rw [size_grow, Go.Sort.size_putRow]; exact Nat.le_add_right _ _
  · unfold sortWorld
    rw [frozen?_grow _ _ _ (by rw [Go.Sort.size_putRow]; exact ha), Go.Sort.frozen?_putRow]; rfl
  · show w.drawn ≤ w.drawn + n
    exact Nat.le_add_right _ _
theorem putCells_take {α : Type} [Inhabited α] {enc : α → Value} {d : Array α} {cur : Array Value} (h : d.size ≤ cur.size) : (putCells enc 0 d cur).toList.take d.size = d.toList.map enc := by
  apply List.ext_getElem?
  intro k
  rw [List.getElem?_take, List.getElem?_map]
  by_cases hk : k < d.size
  · rw [if_pos hk, Array.getElem?_toList, Array.getElem?_toList]
    have hc : k < cur.size := by omega
    simp only [putCells, Array.getElem?_mapIdx, Array.getElem?_eq_getElem hc, Array.getElem?_eq_getElem hk, Option.map_some]
    rw [if_pos ⟨Nat.zero_le _, by omega⟩, Nat.sub_zero]
    simp [getElem!_pos, hk]
  · rw [if_neg hk, Array.getElem?_toList, Array.getElem?_eq_none (by omega)]; rfl
theorem Con.sortI {ρ : Ren} (L : SlLaysF.n6 P ρ) {g : FuncId} {caps : List AV} [hcp : NRl caps] (hg : callT P g = true) {l r : List Int} {cf : Int → Int → Option Int} (h : sortO cf l = some r)
    (hc : ∀ a b v, cf a b = some v → Con P g (I64 a :: I64 b :: caps) (none :: none :: caps.map fun _ => none) (I64 v)) :
    Con P (ρ.f 6) [oR eI l, .clo (.func g) [] caps] [some (oR eI r), none] (.tup []) := by
  refine ⟨rfl, fun w I vs Fs hl hS => ?_⟩
  obtain ⟨v0, v1, rfl⟩ : ∃ v0 v1, vs = [v0, v1] := by
    match vs, hl with
    | [a, b], _ => exact ⟨a, b, rfl⟩
  obtain ⟨hs1, hs2, hs3, rfl⟩ := sortO_spec h
  obtain ⟨u, hu, hR⟩ := hS.rel 0 (oR eI l) rfl
  obtain rfl : v0 = u := by simpa using hu
  replace hR := hR.isTree (by simp)
  obtain ⟨u, hu, hR1⟩ := hS.rel 1 (.clo (.func g) [] caps) rfl
  obtain rfl : v1 = u := by simpa using hu
  replace hR1 := hR1.isTree (by simp)
  rw [show oR eI l = .own 1 l.length (rowc eI l) from rfl, rowc_int] at hR
  cases hR with
  | ref hx => simp [AV.isRef] at hx
  | @own _ _ _ _ e us Fk _ ho hlu hone hr hd hb hF =>
  cases hR1 with
  | ref hx => simp [AV.isRef] at hx
  | @clo _ _ _ a1 cb _ hF1 h1 h2 hr1 hr2 =>
  obtain rfl : a1 = #[] := Array.eq_empty_of_size_eq_zero (by simpa using h1.symm)
  have hF0 : ∀ c, Fs 0 c ↔ v0.ownBlock = some c := by
    intro c
    refine ⟨fun hc => ?_, fun hc => (hF c).2 (.inl hc)⟩
    rcases (hF c).1 hc with h | ⟨k, hk, h⟩
    · exact h
    · have hx := List.getElem?_eq_getElem hk
      have hu := List.getElem?_eq_getElem (hlu ▸ hk)
      have hR := hr k _ _ hx hu
      rw [List.getElem_map] at hR
      generalize us[k] = uu at hR
      cases hR with
      | lit _ hf => exact (hf c h).elim
      | ref hx => simp [AV.isRef] at hx
  have hus : us = l.map (Value.int .i64) := by
    apply List.ext_getElem?
    intro k
    by_cases hk : k < us.length
    · have hk' : k < (l.map I64).length := hlu.symm ▸ hk
      have hx := List.getElem?_eq_getElem hk'
      have hu := List.getElem?_eq_getElem hk
      have hR := hr k _ _ hx hu
      rw [List.getElem_map] at hR
      rw [hu, hR.inv_lit.1, List.getElem?_map, List.getElem?_eq_getElem (by simpa using hk')]; rfl
    · rw [List.getElem?_eq_none (by omega), List.getElem?_eq_none (by rw [List.length_map] at hlu ⊢; omega)]
  subst hus
  have hperm := isort_perm (ltO cf) l
  have hlen := hperm.length_eq
  by_cases hnil : l = []
  · subst hnil
    have hsl : ∃ p cap, v0 = .slice p 0 cap := by
      rcases ho.2 with ⟨rfl, _⟩ | ⟨b, cap, cur, rfl, _⟩
      · exact ⟨_, _, rfl⟩
      · exact ⟨_, _, rfl⟩
    obtain ⟨p, cap, rfl⟩ := hsl
    refine (AnyF.slices_SortFunc_none { L with } p cap _ w).mono ?_
    rintro e' w' ⟨rfl, rfl⟩
    exact sort_fin rfl hS (e := e) (r := []) ho hF0 (Fr.refl _ _)
  · obtain ⟨hlen2, hcase⟩ := ho
    rcases hcase with ⟨rfl, h0⟩ | ⟨b, cap, cur, rfl, _, hgb, hle, hmx, hsz, htk⟩
    · exact absurd (List.eq_nil_of_length_eq_zero h0) hnil
    rw [Nat.mul_one] at hsz htk
    have hbU : Fs 0 b := (hF0 b).2 rfl
    have hblt : b < w.heap.size := (Array.getElem?_eq_some_iff.1 hgb).1
    obtain ⟨a0, ha0⟩ := List.exists_mem_of_ne_nil l hnil
    let α := { x : Int // x ∈ l }
    haveI : Inhabited α := ⟨⟨a0, ha0⟩⟩
    let enc : α → Value := fun x => .int .i64 x.1
    let cg : α → α → Int := fun x y => (cf x.1 y.1).getD 0
    have hlt : ∀ x y : α, ltOf cg x y = ltO cf x.1 y.1 := fun x y => rfl
    let d : Array α := l.attach.toArray
    have hds : d.size = l.length := by show (l.attach.toArray).size = l.length; rw [List.size_toArray, List.length_attach]
    have hsp := ordB_spec hs2
    have hO : SWO (ltOf cg) := by
      refine ⟨fun x => by rw [hlt]; exact (hsp x.1 x.2).1, fun x y z => ?_, fun x y z => ?_⟩
      · rw [hlt, hlt, hlt]
        exact fun p q => (((hsp x.1 x.2).2 y.1 y.2).2 z.1 z.2).1 ⟨p, q⟩
      · rw [hlt, hlt, hlt]
        intro p q
        rcases (((hsp x.1 x.2).2 y.1 y.2).2 z.1 z.2).2 with h | h | h
        · rw [p] at h; cases h
        · rw [q] at h; cases h
        · exact h
    have hT : ∀ x y : α, ltOf cg x y = false → ltOf cg y x = false → x = y := by
      intro x y p q
      rw [hlt] at p q
      rcases ((hsp x.1 x.2).2 y.1 y.2).1 with h | h | h
      · rw [p] at h; cases h
      · rw [q] at h; cases h
      · exact Subtype.ext h
    have hcell : ∀ j, j < l.length → cur[j]? = some (.int .i64 l[j]!) := by
      intro j hj
      have := congrArg (fun t => t[j]?) htk
      simp only [List.getElem?_take, if_pos hj, Array.getElem?_toList, List.getElem?_map, List.getElem?_eq_getElem hj, Option.map_some] at this
      rw [this, getElem!_pos l j hj]
    have hH : Holds enc w b 0 d := by
      intro j hj
      rw [hds] at hj
      refine ⟨?_, ?_⟩
      · unfold World.cell?
        simp only [hgb, Nat.zero_add]
        show cur[j]? = _
        rw [hcell j hj]
        show some (Value.int .i64 l[j]!) = some (.int .i64 (d[j]!).1)
        have : (d[j]!).1 = l[j]! := by
          rw [getElem!_pos d j (by omega), getElem!_pos l j hj]
          show (l.attach.toArray[j]'_).val = _
          rw [List.getElem_toArray, List.getElem_attach]
        rw [this]
      · unfold World.frozen?
        simp only [hgb]
        simp
    have eg : ∀ args w, (callFunc g args).run P w = .ok (.enter g args) w := fun args w => callT_run hg args
    have hcmp : CmpLays1 P g cb enc cg b 0 d.size w := by
      intro m os dk hdk x y
      have hsome := hs1 x.1 x.2 y.1 y.2
      obtain ⟨v, hv⟩ := Option.isSome_iff_exists.1 hsome
      have hcg : cg x y = v := by show (cf x.1 y.1).getD 0 = v; rw [hv]; rfl
      have hW0 : SR (sortWorld enc w b 0 m dk os) I #[] (fun _ => none) (fun _ => E0) := by
        refine ⟨fun _ _ h => (by cases h), fun _ _ _ h => h, fun _ _ _ h => h.elim, fun _ _ h => h.elim, fun c hc => ?_, fun _ _ _ _ _ _ _ _ _ _ _ h => (by cases h)⟩
        have := hS.lt c hc
        unfold sortWorld
        rw [size_grow, Go.Sort.size_putRow]
        exact Nat.lt_of_lt_of_le this (Nat.le_add_right _ _)
      have hW := hW0.args (I' := I) (fun c h => .inl h) (args := I64 x.1 :: I64 y.1 :: caps) (vs := enc x :: enc y :: cb.toList) (by simp [h2]) (fun ρ' k z u hz hu => ?_)
      · have hcall := (hc x.1 y.1 v hv).2 _ I (enc x :: enc y :: cb.toList) _ (by simp [h2]) hW
        have harr : (enc x :: enc y :: cb.toList).toArray = #[enc x, enc y] ++ cb := by
          apply Array.ext'
          simp
        rw [harr] at hcall
        refine hcall.mono ?_
        rintro e' w' ⟨v', I', Fs', rfl, hS', hst⟩
        obtain ⟨u, hu, hRv⟩ := hS'.rel (caps.length + 2) (I64 v) (by simp [outG])
        have hvu : u = v' := by
          have : (enc x :: enc y :: cb.toList).length = caps.length + 2 := by simp [h2]
          rw [List.getElem?_toArray, ← this] at hu
          simpa using hu.symm
        subst hvu
        have hlit := (hRv.isTree (by simp)).inv_lit.1
        subst hlit
        refine ⟨by rw [hcg], ?_⟩
        exact grow_of_fr (hst.fr.mono fun c _ ⟨_, hh⟩ => hh)
      · match k, hz, hu with
        | 0, hz, hu => cases hz; cases hu; exact .lit rfl fun _ h => h
        | 1, hz, hu => cases hz; cases hu; exact .lit rfl fun _ h => h
        | k + 2, hz, hu =>
          simp only [List.getElem?_cons_succ] at hz hu
          have hRc := (hr2 k z u hz (by simpa using hu)).nr (ρ' := ρ') (hcp.nr z (List.mem_of_getElem? hz))
          refine hRc.frame (fun c hc => ?_) (fun _ h => h) (fun _ _ h => h) (fun c h => h.elim)
          exact heap_sortWorld_other (hS.lt c hc) fun e => hS.imm 0 c (e ▸ hbU) hc
    have hmain := Any.slices_SortFunc_total L enc (fun _ => rfl) cg hO g cb b 0 cap d w eg hcmp hH hblt (by rw [hds]; exact hs3) hT
    rw [hds] at hmain
    refine hmain.mono ?_
    rintro e' w' ⟨rfl, n, os, rfl⟩
    have hval : (d.toList.mergeSort fun x y => !ltOf cg y x).map enc = (isort (ltO cf) l).map (Value.int .i64) := by
      rw [isort_merge hO hT]
      have hm : (isort (ltOf cg) l.attach).map Subtype.val = isort (ltO cf) (l.attach.map Subtype.val) := isort_map (lt := ltOf cg) (lt' := ltO cf) (f := Subtype.val) (fun a b => hlt a b) l.attach
      rw [List.attach_map_subtype_val] at hm
      rw [← hm, List.map_map]
      rfl
    have hdsz : (d.toList.mergeSort fun x y => !ltOf cg y x).toArray.size = l.length := by
      rw [List.size_toArray, (List.mergeSort_perm _ _).length_eq]
      show (l.attach.toArray).toList.length = l.length
      simp
    refine sort_fin rfl hS (e := e) (r := isort (ltO cf) l) ⟨by simp, .inr ⟨b, cap, _, by rw [hlen], Nat.zero_le _, heap_sortWorld hgb, by omega, hmx, ?_, ?_⟩⟩ hF0 (fr_sortWorld hbU)
    · rw [Nat.mul_one, ← hsz]
      simp [putCells]
    · rw [Nat.mul_one, hlen, ← hdsz, putCells_take (by rw [hdsz]; omega), ← hval]
end
end Go.Own
namespace Go.Own
open Go
section
variable {α : Type} {P : Program} {N : Rm} {g g1 g2 g3 : Gst} {ops : Array Oper} {AT : List (List Nat)} {acc : Acc} {l : List Oper} {K : Gst → Prop} {i d r : Nat}
theorem SR.settle {w : World} {I : BSet} {T : Array Value} {Fs : Nat → BSet} (h : SR w I T g Fs) (a : Act) (ha : a.tmps = T) {ts : List Nat} {xs ys : List AV} (hx : Own.opds g (ts.map Operand.tmp) = some xs) (ht : Take g xs ys g1) (hnd : ts.Nodup) (hl : ys.length = ts.length) (hd : ∀ t ∈ ts, g1 t = some .dead)
    (hk : Keep (putAll g1 ((ts.map fun t => (⟨t, []⟩ : Place)).zip ys)) g2) : ∃ Fs', SR w I T g2 Fs' ∧ ∀ c, (∃ t, Fs' t c) → ∃ t, Fs t c := by
  obtain ⟨hxl, hxr⟩ := opds_sound h ha hx
  have hxl' : xs.length = ts.length := by rw [hxl, List.length_map]
  have hand : Hand w I (RefAt w T) Fs xs (ts.map fun t => a.eval (.tmp t)) (fun _ => E0) := by
    refine ⟨by rw [hxl', List.length_map], fun k x u hxk hu => ?_, fun _ _ _ _ _ h => h.elim, fun _ _ _ _ h => h.elim, fun _ _ _ h => h.elim⟩
    rw [List.getElem?_map] at hu
    cases htk : ts[k]? with
    | none => rw [htk] at hu; cases hu
    | some t =>
      rw [htk] at hu; cases hu
      exact (hxr k x (.tmp t) hxk (by rw [List.getElem?_map, htk]; rfl)).frame (fun _ _ => rfl) (fun _ h => h) (fun _ _ h => h.1) fun _ _ => rfl
  obtain ⟨Fs1, H1, hS1, hH1, hall⟩ := ht.sound h.toC hand
  have hzl : ((ts.map fun t => (⟨t, []⟩ : Place)).zip ys).length = ts.length := by rw [List.length_zip, List.length_map, hl]; exact Nat.min_self _
  obtain ⟨Fs2, hS2, hF⟩ := SRc.putAll ((ts.map fun t => (⟨t, []⟩ : Place)).zip ys) H1 (fun j => ((ts.map fun t => a.eval (.tmp t))[j]?).getD undef) hS1 (by
      rw [List.map_fst_zip (by rw [List.length_map, hl]; exact Nat.le_refl _)]
      exact List.Pairwise.map _ (fun a b h e => h (congrArg Place.root e)) hnd) (fun j p x hj => by
      rw [List.getElem?_zip_eq_some] at hj
      obtain ⟨h1, h2⟩ := hj
      rw [List.getElem?_map] at h1
      cases htk : ts[j]? with
      | none => rw [htk] at h1; cases h1
      | some t =>
        rw [htk] at h1; cases h1
        have hdt := hd t (List.mem_of_getElem? htk)
        obtain ⟨v, hv, _⟩ := hS1.rel t .dead hdt
        have hev : a.eval (.tmp t) = v := by simp [Act.eval, ha, hv]
        have hvj : (ts.map fun t => a.eval (.tmp t))[j]? = some v := by rw [List.getElem?_map, htk]; simp [hev]
        refine ⟨by simp [atP, hdt, AV.at], ?_, ?_⟩
        · rw [hvj]
          show valAt w T ⟨t, []⟩ = some v
          unfold valAt
          simp only [hv, walk]
        · rw [hvj]
          exact hH1.rel j x v h2 hvj) (fun j t c hj hc => hH1.off j t c (by omega) hc) (fun j c hj hc => hH1.imm j c (by omega) hc) (fun i j c hi hj h1 h2 => hH1.dis i j c (by omega) (by omega) h1 h2)
  refine ⟨_, hS2.keep hk, fun c ⟨t, _, hc⟩ => ?_⟩
  have : AllB Fs1 ys.length H1 c := by
    rcases hF t c hc with h | ⟨j, hj, h⟩
    · exact .inl ⟨t, h⟩
    · exact .inr ⟨j, by omega, h⟩
  rcases hall c this with h | ⟨_, _, h⟩
  · exact h
  · exact h.elim
theorem EffOk.settle {o : Oper} {ts : List Nat} {xs ys : List AV} (hx : Own.opds g (ts.map Operand.tmp) = some xs) (ht : Take g xs ys g1) (hnd : ts.Nodup) (hl : ys.length = ts.length) (hd : ∀ t ∈ ts, g1 t = some .dead)
    (hk : Keep (putAll g1 ((ts.map fun t => (⟨t, []⟩ : Place)).zip ys)) g2) (he : EffOk P N g2 o g3) : EffOk P N g o g3 := by
  intro w I T Fs hS a ha hN K Q hK
  obtain ⟨Fs', hS', hU⟩ := hS.settle a ha hx ht hnd hl hd hk
  refine he w I T Fs' hS' a ha hN K Q fun a' w' hn ht => hK a' w' ?_ ht
  obtain ⟨e1, e2, I', Fs2, h1, h2⟩ := hn
  exact ⟨e1, e2, I', Fs2, h1, St.trans ⟨Fr.refl _ _, fun _ h => h, fun _ h => .inl h, fun c h => .inl (hU c h)⟩ h2⟩
theorem all2 {Q : Nat → Prop} {a b : Nat} (ha : Q a) (hb : Q b) : ∀ t ∈ [a, b], Q t := fun t ht => by
  rcases List.mem_cons.1 ht with rfl | ht
  · exact ha
  · rw [List.mem_singleton.1 ht]; exact hb
def plB (p q : Place) : Bool := Nat.beq p.root q.root && p.path == q.path
def ndq : List Place → Bool
  | [] => true
  | x :: l => l.all (fun y => !plB x y) && ndq l
theorem ndq_spec : ∀ {l : List Place}, ndq l = true → l.Nodup
  | [], _ => List.nodup_nil
  | p :: l, h => by
    simp only [ndq, Bool.and_eq_true, List.all_eq_true] at h
    refine List.nodup_cons.2 ⟨fun hm => ?_, ndq_spec h.2⟩
    have := h.1 p hm
    simp [plB] at this
def noQ (p : Place) (acc : Acc) : Bool := acc.all fun e => match pendPlace e with | some q => !plB p q | none => true
theorem noQ_spec {p : Place} {G : List (Nat × AV)} {A : Nat → Bool} (h : noQ p acc = true) (hG : npB G = true) : ∀ t z n m new, visG (get G) A acc t ≠ some (.pend z p n m new) := by
  intro t z n m new e
  rcases visG_some e with ⟨e', he, h1, _, h2⟩ | ⟨_, h2⟩
  · have := List.all_eq_true.1 h e' he
    obtain ⟨k, d, x⟩ := e'
    simp only at h2
    subst h2
    simp [pendPlace, plB] at this
  · exact npB_spec hG _ _ _ _ _ _ h2
theorem O.ap' {en : En α} {L M r : List α} {y : AV} {e b0 : Nat} {a b : Operand} {p : Place} {t ty : TypeId} (hs : Rd g a (.brw en.z p L.length)) (hp : atP g p = some (oR en L)) (hx : Rd g b y) (hm : Sr g en y M) (ht : appT P t e en.z b0 = true) (hb : Nat.ble b0 128 = true) (h : appO L M = some r) (hno : ∀ t z n m new, g t ≠ some (.pend z p n m new)) :
    PS P g (.call { callee := .builtin .append, args := #[a, b], argTypes := #[t, t] }) ty (.pend en.z p L.length M.length (rowc en M)) := by
  obtain ⟨h1, h2, _⟩ := app_bound h hb
  exact .pa (.grow hs.opd (.inl ⟨_, hp⟩) (fun t z' n' m' new' e => hno _ _ _ _ _ e) hx.opd hm.src ht h1 h2)
theorem DL.bw (j0 : Nat) {G G2 : List (Nat × AV)} {o : Oper} (he : EffOk P N (visG (get G) (fun m => (AT.getD j0 []).contains m) acc) o (get G2)) (hg : o.guard = none) (hpd : ndq (acc.filterMap pendPlace) = true) (hp0 : npB G = true) (hj : Nat.beq ops.size (j0 + l.length + 1) = true)
    (hU : acc.filter (fun e => !(AT.getD j0 []).contains e.1) = [])
    (hb : (List.range ops.size).all (fun k => Nat.ble k j0 || (AT.getD k []).contains j0) = true) (hk : DL P N ops AT (get G2) (j0 + 1) [] l K) : DL P N ops AT (get G) i acc (o :: l) K := by
  intro U0 j hP hseg hdrop
  have := drop_at hdrop hj
  subst this
  obtain ⟨h1, h2⟩ := drop_cons hdrop
  obtain ⟨g', hr, hK⟩ := hk [] (j + 1) .nil .nil h2
  refine ⟨g', .bar (U := []) (rs := rsV []) hseg (ndq_spec hpd) (npB_spec hp0) h1 ?_ he.v (fun p hp => by simp [rsV] at hp) hU.symm (by simp) (by simp) (by simp) ?_ hr, hK⟩
  · unfold Wanted; rw [hg]
  · refine List.all_eq_true.2 fun k hk => ?_
    have := List.all_eq_true.1 hb k hk
    simp only [Bool.or_eq_true, decide_eq_true_eq, Nat.ble_eq] at this ⊢
    exact this
theorem EffOk.cell {o : Oper} {r k0 : Nat} {y : AV} {cs : List AV} {g5 : Gst} (hr : g r = some (.obj cs)) (hy : cs[k0]? = some y) (hyn : NR y)
    (hop : ∀ v : Value, v.oneCell' = true → ∃ g1 g4, Keep (setP g ⟨r, [k0]⟩ (.lit v)) g1 ∧ EffOk P N g1 o g4 ∧ atP g4 ⟨r, [k0]⟩ = some (.lit v) ∧ Keep (setP g4 ⟨r, [k0]⟩ y) g5) : EffV P N (fun p => p ∈ [(⟨r, [k0]⟩ : Place)]) g o g5 := by
  intro w I T Fs h a ha hN K Q hK
  have hnp : ∀ z q n m new, y ≠ .pend z q n m new := by rintro z q n m new rfl; cases hyn
  have hat : atP g ⟨r, [k0]⟩ = some y := by simp [atP, hr, AV.at, AV.kids, hy]
  obtain ⟨v, Fy, hv, hRy, hFy, put⟩ := h.toC.part hat hnp
  have hv1 : v.oneCell' = true := by
    obtain ⟨u, hu, hRu⟩ := h.rel r _ hr
    obtain ⟨b, u', h1, h2, h3, h4, _⟩ := R.node (z := 0) (n := 0) (hRu.isTree (by simp)) (.inr rfl) hy
    have : valAt w T ⟨r, [k0]⟩ = child w u k0 := by
      unfold valAt
      simp only [hu, walk]
      cases child w u k0 <;> rfl
    rw [this, h3] at hv
    cases hv
    exact h4
  obtain ⟨Fs1, hS1, hF1, hF2⟩ := put (.lit v) E0 (.lit hv1 fun _ h => h) (fun _ h => h.elim) (fun _ h => h.elim) (fun _ _ _ h => h.elim)
  obtain ⟨g1, g4, hk1, hok, hat4, hk4⟩ := hop v hv1
  have sub1 : ∀ t c, Fs1 t c → Fs t c ∧ ¬ Fy c := by
    intro t c hc
    by_cases ht : t = r
    · subst ht
      rcases (hF1 c).1 hc with h' | h'
      · exact h'
      · exact h'.elim
    · rw [hF2 t ht] at hc
      exact ⟨hc, fun hf => ht (h.dis t r c hc (hFy c hf))⟩
  have hS1' := hS1.keep hk1
  refine hok w I T _ hS1' a ha hN K Q fun a' w' hn htm => ?_
  obtain ⟨e1, e2, I', Fs', hS', hst⟩ := hn
  obtain ⟨v2, F2, hv2, hR2, hF2', put2⟩ := hS'.toC.part hat4 (by simp)
  have hv2' : v2 = v := hR2.inv_lit.1
  subst hv2'
  have hFyI : ∀ c, Fy c → ¬ I c := fun c hc => h.imm r c (hFy c hc)
  have hFylt : ∀ c, Fy c → c < w.heap.size := fun c hc => h.ltF r c (hFy c hc)
  have offU : ∀ c, Fy c → ¬ ∃ t, (g1 t ≠ none ∧ Fs1 t c) := fun c hc ⟨t, _, h'⟩ => (sub1 t c h').2 hc
  have offF' : ∀ t c, Fs' t c → ¬ Fy c := by
    intro t c hc hf
    rcases hst.own c ⟨t, hc⟩ with h' | h'
    · exact offU c hf h'
    · have := hFylt c hf; omega
  have offI' : ∀ c, Fy c → ¬ I' c := by
    intro c hc hi
    rcases hst.new c hi with h' | h' | h'
    · exact hFyI c hc h'
    · exact offU c hc h'
    · have := hFylt c hc; omega
  have sameY : ∀ c, Fy c → w'.heap[c]? = w.heap[c]? := fun c hc => hst.fr.block c (hFylt c hc) (offU c hc)
  have sameI : ∀ c, I c → w'.heap[c]? = w.heap[c]? := fun c hc => hst.fr.block c (h.lt c hc) fun ⟨t, _, h'⟩ => h.imm t c (sub1 t c h').1 hc
  have hRy' : R w' I' (RefAt w' a'.tmps) y v2 Fy := ((hRy.nr hyn).frame sameI hst.more (fun _ _ h => h) sameY)
  obtain ⟨Fs5, hS5, hF5, hF6⟩ := put2 y Fy hRy' (fun c hc hf => (offF' _ c hf hc).elim) (fun c hc => offI' c hc) (fun t c _ hc hf => offF' t c hf hc)
  have hS6 := hS5.keep hk4
  refine hK a' w' ⟨e1, e2, I', _, hS6, ⟨?_, hst.more, fun c hc => ?_, fun c hc => ?_⟩⟩ htm fun r' path hp y' hy' hnp' => ?_
  · exact hst.fr.mono fun b _ ⟨t, _, h'⟩ => ⟨t, (sub1 t b h').1⟩
  · rcases hst.new c hc with h' | ⟨t, _, h'⟩ | h'
    · exact .inl h'
    · exact .inr (.inl ⟨t, (sub1 t c h').1⟩)
    · exact .inr (.inr h')
  · obtain ⟨t, _, hc⟩ := hc
    have : (∃ t, Fs' t c) ∨ Fy c := by
      by_cases ht : t = r
      · subst ht
        rcases (hF5 c).1 hc with ⟨h', _⟩ | h'
        · exact .inl ⟨_, h'⟩
        · exact .inr h'
      · rw [hF6 t ht] at hc; exact .inl ⟨t, hc⟩
    rcases this with h' | h'
    · rcases hst.own c h' with ⟨t, _, h''⟩ | h''
      · exact .inl ⟨t, (sub1 t c h'').1⟩
      · exact .inr h''
    · exact .inl ⟨r, hFy c h'⟩
  · have hp : (⟨r', path⟩ : Place) ∈ [(⟨r, [k0]⟩ : Place)] := hp
    have hp := List.mem_singleton.1 hp
    cases hp
    rw [hv, hv2]
end
end Go.Own
namespace Go.Own
open Go
section
variable {α : Type} {P : Program} {N : Rm} {g : Gst} {ops : Array Oper} {l : List Oper} {K : Gst → Prop} {r n : Nat} {t e ty : TypeId} {a b : Operand} {m : Int} {en : En α} {L : List α} {y y2 : α} {k : IntKind} {pos : String} {after : Array Edge}
def idxA {α : Type} (n : Nat) (l : List α) (i : Int) : Option α := if i < n then idx l i else none
theorem idxA_spec (h : idxA n L m = some y) : m < n ∧ idx L m = some y := by
  unfold idxA at h
  split at h
  · exact ⟨by assumption, h⟩
  · cases h
theorem arr_lt (hz : Nat.blt 0 en.z = true) (h : idx L m = some y) : m.toNat * en.z < (rowc en L).length := by
  obtain ⟨h0, h1, _⟩ := idx_spec h
  rw [rowc_len]
  exact Nat.mul_lt_mul_of_pos_right (by omega) (by simpa using hz)
theorem O.ixA (hs : g r = some (.obj (rowc en L))) (hz : Nat.blt 0 en.z = true) (hi : Rd g b (.lit (.int k m))) (ht : arrT P t e n en.z = true) (h : idxA n L m = some y) : PS P g (.indexAddr t (.tmp r) b) ty (.ptr ⟨r, []⟩ (m.toNat * en.z)) := by
  obtain ⟨h1, h2⟩ := idxA_spec h
  have hlt := arr_lt hz h2
  obtain ⟨h0, _, _⟩ := idx_spec h2
  have hx : Own.opd g (.tmp r) = some (.ptr ⟨r, []⟩ 0) := by
    cases hc : rowc en L with
    | nil => rw [hc] at hlt; simp at hlt
    | cons c cs => simp [Own.opd, hs, hc, refTop, refIn]
  have hm : ((m.toNat : Nat) : Int) = m := by omega
  have := PS1.idxArrP (P := P) (g := g) (ty := ty) (k := 0) (j := m.toNat) hx (by rw [hm]; exact hi.opd) ht (by omega) ⟨.obj (rowc en L), by simp [atP, hs, AV.at], 0, 0, _, .inr rfl, by rw [Nat.zero_add]; exact hlt⟩
  rw [Nat.zero_add] at this
  exact .p1 this
theorem O.ldA {x : AV} (hs : g r = some (.obj (rowc en L))) (ha : Rd g a (.ptr ⟨r, []⟩ (m.toNat * en.z))) (h : idx L m = some y) (hx : (en.cells y)[0]? = some x) (ht : cellT P t = true) (hn : ∀ p, refIn 0 p x = x) : PS P g (.load t a) ty x := by
  have := rowc_at en h hx
  rw [Nat.add_zero] at this
  exact O.ldO hs ha ht this (hn _)
theorem RunL.sA {yv : AV} {cs' : List AV} {G2 : List (Nat × AV)} (hs : g r = some (.obj (rowc en L))) (hz : Nat.blt 0 en.z = true) (ha : Rd g a (.ptr ⟨r, []⟩ (m.toNat * en.z))) (hb : Rd g b yv) [hn : NRc yv] (h : idx L m = some y) (hc : cellsP yv = some cs') (hcs : cs' = en.cells y2) (hsz : sizeT P t cs'.length = true)
    (hr : (get G2 r).isSome = true) (hG : TrS g (get G2) r (rowc en (L.set m.toNat y2)) G2) (hk : RunL P N ops l (get G2) K) : RunL P N ops (⟨none, .store t a b, ty, pos, after, none⟩ :: l) g K := by
  have hlen : cs'.length = en.z := by rw [hcs, en.len]
  obtain ⟨h0, h1, _⟩ := idx_spec h
  refine .sO hs ha hb hc hsz ?_ ?_ ?_ hr hG hk
  · rw [hlen, rowc_len]
    simp only [Nat.ble_eq]
    have : (m.toNat + 1) * en.z ≤ L.length * en.z := Nat.mul_le_mul_right _ (by omega)
    rw [Nat.add_mul, Nat.one_mul] at this
    exact this
  · rw [hlen]; exact hz
  · have := row_set en h (o := 0) (cs' := cs') (y2 := y2) (by
      subst hcs
      have hl : (en.cells y2).length = (en.cells y).length := by rw [en.len, en.len]
      unfold splice
      rw [List.take_zero, List.nil_append, Nat.zero_add, hl, List.drop_length, List.append_nil]) (by omega)
    rw [Nat.add_zero] at this
    exact this
end
end Go.Own
namespace Go.Proofs
open Go Go.Shelf Go.RowKit Go.Lib Go.Sort Go.Own
def Try.sortI_ren : Go.Shelf.Ren := ⟨fun | 6 => 50 | 15 => 80 | 14 => 79 | 28 => 109 | 29 => 110 | 20 => 101 | 21 => 102 | 22 => 103 | 23 => 104 | 24 => 105 | 25 => 106 | 26 => 107 | 27 => 108 | 46 => 131 | 47 => 132 | 48 => 133 | 49 => 134 | 50 => 135 | 57 => 152 | n => n, fun | 22 => 33 | 24 => 3 | 25 => 55 | 3 => 3 | 39 => 135 | 0 => 0 | 53 => 162 | 55 => 117 | 4 => 4 | 46 => 156 | 45 => 155 | 50 => 86 | 5 => 5 | 9 => 9 | 66 => 180 | 70 => 184 | 76 => 196 | 77 => 197 | n => n, fun | n => n⟩
theorem Try.sortI : Go.Proofs.SlLaysF.n6 Try.prog Try.sortI_ren := {
  mixed := by kernel_rfl
  f6 := ⟨Try.f50.name, by decide, Try.func50.trans (congrArg some (by kernel_rfl))⟩
  f14 := ⟨Try.f79.name, by decide, Try.func79.trans (congrArg some (by kernel_rfl))⟩
  f15 := Try.func80.trans (congrArg some (by kernel_rfl))
  f20 := ⟨Try.f101.name, by decide, Try.func101.trans (congrArg some (by kernel_rfl))⟩
  f21 := ⟨Try.f102.name, by decide, Try.func102.trans (congrArg some (by kernel_rfl))⟩
  f22 := ⟨Try.f103.name, by decide, Try.func103.trans (congrArg some (by kernel_rfl))⟩
  f23 := ⟨Try.f104.name, by decide, Try.func104.trans (congrArg some (by kernel_rfl))⟩
  f24 := ⟨Try.f105.name, by decide, Try.func105.trans (congrArg some (by kernel_rfl))⟩
  f25 := ⟨Try.f106.name, by decide, Try.func106.trans (congrArg some (by kernel_rfl))⟩
  f26 := ⟨Try.f107.name, by decide, Try.func107.trans (congrArg some (by kernel_rfl))⟩
  f27 := ⟨Try.f108.name, by decide, Try.func108.trans (congrArg some (by kernel_rfl))⟩
  f28 := Try.func109.trans (congrArg some (by kernel_rfl))
  f29 := Try.func110.trans (congrArg some (by kernel_rfl))
  f46 := ⟨Try.f131.name, by decide, Try.func131.trans (congrArg some (by kernel_rfl))⟩
  f47 := Try.func132.trans (congrArg some (by kernel_rfl))
  f48 := Try.func133.trans (congrArg some (by kernel_rfl))
  f49 := ⟨Try.f134.name, by decide, Try.func134.trans (congrArg some (by kernel_rfl))⟩
  f50 := ⟨Try.f135.name, by decide, Try.func135.trans (congrArg some (by kernel_rfl))⟩
  f57 := ⟨Try.f152.name, by decide, Try.func152.trans (congrArg some (by kernel_rfl))⟩
  t0 := Try.underlying0
  a0 := Try.isAgg0
  z0 := Try.sizeOf0
  v0 := Try.zeroValue0
  t3 := Try.underlying3
  a3 := Try.isAgg3
  z3 := Try.sizeOf3
  v3 := Try.zeroValue3
  t4 := Try.underlying4
  a4 := Try.isAgg4
  z4 := Try.sizeOf4
  v4 := Try.zeroValue4
  t5 := Try.underlying5
  a5 := Try.isAgg5
  z5 := Try.sizeOf5
  v5 := Try.zeroValue5
  t9 := Try.underlying9
  a9 := Try.isAgg9
  z9 := Try.sizeOf9
  v9 := Try.zeroValue9
  t22 := Try.underlying33
  a22 := Try.isAgg33
  z22 := Try.sizeOf33
  v22 := Try.zeroValue33
  a24 := Try.isAgg3
  z24 := Try.sizeOf3
  t25 := Try.underlying55
  a25 := Try.isAgg55
  z25 := Try.sizeOf55
  v25 := Try.zeroValue55
  t39 := Try.underlying135
  a39 := Try.isAgg135
  z39 := Try.sizeOf135
  v39 := Try.zeroValue135
  t45 := Try.underlying155
  a45 := Try.isAgg155
  z45 := Try.sizeOf155
  v45 := Try.zeroValue155
  t46 := Try.underlying156
  a46 := Try.isAgg156
  z46 := Try.sizeOf156
  v46 := Try.zeroValue156
  t50 := Try.underlying86
  a50 := Try.isAgg86
  z50 := Try.sizeOf86
  v50 := Try.zeroValue86
  t53 := Try.underlying162
  a53 := Try.isAgg162
  z53 := Try.sizeOf162
  v53 := Try.zeroValue162
  t55 := Try.underlying117
  a55 := Try.isAgg117
  z55 := Try.sizeOf117
  v55 := Try.zeroValue117
  t66 := Try.underlying180
  a66 := Try.isAgg180
  z66 := Try.sizeOf180
  v66 := Try.zeroValue180
  t70 := Try.underlying184
  a70 := Try.isAgg184
  z70 := Try.sizeOf184
  v70 := Try.zeroValue184
  t76 := Try.underlying196
  a76 := Try.isAgg196
  z76 := Try.sizeOf196
  v76 := Try.zeroValue196
  t77 := Try.underlying197
  a77 := Try.isAgg197
  z77 := Try.sizeOf197
  v77 := Try.zeroValue197 }
theorem sort50 {g : FuncId} {caps : List AV} [hcp : NRl caps] (hg : callT Try.prog g = true) {l r : List Int} {cf : Int → Int → Option Int} (h : sortO cf l = some r)
    (hc : ∀ a b v, cf a b = some v → Con Try.prog g (I64 a :: I64 b :: caps) (none :: none :: caps.map fun _ => none) (I64 v)) :
    Con Try.prog 50 [oR eI l, .clo (.func g) [] caps] [some (oR eI r), none] (.tup []) := Con.sortI Try.sortI hg h hc
end Go.Proofs
