/-
  What is proved here: parts of the proof that QAs states last: rules for walks through code, and of this program's functions what they answer. No condition of their own.
-/
import Derived.ChangeAt
import Derived.ChangeOld
import Derived.ChangeSame
import Derived.Deep.Slices
import Derived.ReadAgain
import Derived.RowKit3
import Derived.WideShapes
import Derived.Test.YteohndfkdfehcaaE2
namespace Go.Own
open Go
section
variable {P : Program} {N : Rm} {g g2 : Gst} {d r k0 : Nat} {α : Type}
theorem View.p0 {p : Place} {cs cs' : List AV} (hp : atP g p = some (.obj cs)) (hk : Nat.blt 0 cs.length = true) [h : Vws cs cs'] : View g (.ptr p 0) (.iptr cs') :=
  .ptr hp (z := 0) (n := 0) (.inr rfl) (by simpa using hk) (by simpa using h.l) fun k x y hx hy => h.v g k x y (by simpa using hx) hy
theorem RK.el {en : En α} {L : List α} {j off : Nat} {i : Int} {y : α} (h2 : atP g2 ⟨r, [j]⟩ = some (oR en L)) (hi : idx L i = some y) (ho : Nat.blt off en.z = true) : RK g2 (.ptr ⟨r, [j]⟩ (i.toNat * en.z + off)) :=
  (El.mk (g := g2) h2 hi h2 hi ho).rk
theorem npPtr {p : Place} {k : Nat} : ∀ z q n m new, AV.ptr p k ≠ .pend z q n m new := by simp
inductive BkE (g : Gst) (d r k0 : Nat) (G4 : List (Nat × AV)) : List (Nat × AV) → Prop
  | nil : BkE g d r k0 G4 []
  | c {α : Type} {en : En α} {L : List α} {s off : Nat} {i : Int} {y : α} {l : List (Nat × AV)} (h : g s = some (.ptr ⟨r, [k0]⟩ (i.toNat * en.z + off))) (hp : atP (get G4) ⟨r, [k0]⟩ = some (oR en L)) (hi : idx L i = some y) (ho : Nat.blt off en.z = true) (hd : Nat.beq s d = false) (h4 : get G4 s = none) (t : BkE g d r k0 G4 l) : BkE g d r k0 G4 ((s, .ptr ⟨r, [k0]⟩ (i.toNat * en.z + off)) :: l)
theorem BkE.spec {G4 l : List (Nat × AV)} (h : BkE g d r k0 G4 l) : ∀ t x, get l t = some x → get G4 t = none ∧ t ≠ d ∧ g t = some x ∧ ∃ m z n cs, x = .ptr ⟨r, [k0]⟩ m ∧ atP (get G4) ⟨r, [k0]⟩ = some (.own z n cs) ∧ m < cs.length := by
  induction h with
  | nil => intro t x hx; cases hx
  | @c α en L s off i y l h hp hi ho hd h4 _ ih =>
    intro t x hx; simp only [get] at hx
    split at hx
    · rename_i e; subst e; cases hx; exact ⟨h4, Nat.ne_of_beq_eq_false hd, h, _, _, _, _, rfl, hp, el_lt hi ho⟩
    · exact ih t x hx
theorem TrX.keep {g' : Gst} {x2 : AV} {G2 : List (Nat × AV)} (hG : TrX g (get G2) r x2 G2) (h1 : ∀ t, t ≠ r → g' t = g t) (h2 : g' r = some x2) : Keep g' (get G2) := by
  refine ⟨fun t x hx => ?_, fun t x hx => ?_, fun t z q n m new hx => ?_⟩
  · rcases hG.spec t x hx with ⟨a, b, _⟩ | ⟨rfl, rfl, _⟩
    · rw [h1 t a]; exact b
    · exact h2
  · rcases hG.spec t x hx with ⟨_, _, h3 | ⟨h3, _⟩⟩ | ⟨_, _, h3⟩
    · exact h3.rk
    · exact h3.rk
    · exact .nr h3
  · rcases hG.spec t _ hx with ⟨_, _, h3 | ⟨h3, _⟩⟩ | ⟨_, _, h3⟩
    · exact h3.np _ _ _ _ _ rfl
    · exact h3.np _ _ _ _ _ rfl
    · cases h3
theorem setP_box {cs : List AV} {y x : AV} (h : g r = some (.obj cs)) (hk : cs[k0]? = some x) : setP g ⟨r, [k0]⟩ y r = some (.obj (cs.set k0 y)) := by
  simp [setP, h, AV.setAt, AV.kids, hk, AV.setKid]
theorem EO.fr {o : Oper} {y : AV} {cs cs5 : List AV} {G1 G4 : Value → List (Nat × AV)} {c4 : Value → List AV} {G5 A : List (Nat × AV)} (hd : o.dst = some d) (hN : N.ok d = true) (hr : g r = some (.obj cs)) (hy : cs[k0]? = some y) [hyn : NRc y]
    (h1 : ∀ v, TrX g (get (G1 v)) r (.obj (cs.set k0 (.lit v))) (G1 v)) (hc : ∀ v, CallOk P N (get (G1 v)) o d (get (G4 v))) (h4r : ∀ v, get (G4 v) r = some (.obj (c4 v))) (h4k : ∀ v, (c4 v)[k0]? = some (.lit v)) (h4s : ∀ v, (c4 v).set k0 y = cs5)
    (h5 : ∀ v, TrX (get (G4 v)) (get G5) r (.obj cs5) G5) (h5r : atP (get G5) ⟨r, [k0]⟩ = some y) (hA : BkE g d r k0 G5 A) : EO P N g o (get (A ++ G5)) := by
  refine .call hd hN (CallOk.framed hr hy hyn.nr fun v hv => ⟨get (G1 v), get (G4 v), get G5, ?_, hc v, ?_, ?_, h5r, ?_⟩)
  · exact (h1 v).keep (fun t ht => setP_slot ht) (setP_box hr hy)
  · have := h4r v
    simp only [atP, this, AV.at, AV.kids, h4k v]
  · refine (h5 v).keep (fun t ht => setP_slot ht) ?_
    rw [setP_box (h4r v) (h4k v), h4s v]
  · refine ⟨fun t x h => ?_, fun t x h => ?_⟩
    · rw [get_app]
      cases hA' : get A t with
      | none => exact h
      | some z =>
        obtain ⟨q1, _⟩ := hA.spec t z hA'
        rw [q1] at h; cases h
    · rw [get_app] at h
      cases hA' : get A t with
      | none => rw [hA'] at h; exact .inl h
      | some z =>
        rw [hA'] at h
        cases h
        exact .inr (hA.spec t x hA')
end
end Go.Own
namespace Go.Own
open Go
section
variable {P : Program} {N : Rm} {ops : Array Oper} {g g1 gA : Gst} {K : Gst → Prop} {l : List Oper} {d r : Nat} {t : TypeId} {a b : Operand} {x y : AV}
variable {AT : List (List Nat)} {acc : Acc} {i : Nat}
theorem of_blt {a b : Nat} (h : Nat.blt a b = true) : a < b := by simpa using h
def neD : Option Nat → Nat → Bool
  | none, _ => true
  | some a, d => !Nat.beq a d
theorem neD_spec {o : Option Nat} {d : Nat} (h : neD o d = true) : o ≠ some d := by
  rintro rfl
  simp [neD] at h
inductive UL (P : Program) (N : Rm) (ops : Array Oper) (AT : List (List Nat)) (rs : List Nat) (gA g1 : Gst) (o : Oper) (U : Acc) : Acc → Prop
  | nil : UL P N ops AT rs gA g1 o U []
  | c {k d : Nat} {x : AV} {o' : Oper} {V : Acc} (hst : Stab rs gA g1 o x) (h1 : g1 d = none) (hne : neD o.dst d = true) (ho : ops[k]? = some o') (hod : o'.dst = some d) (hN : N.ok d = true) (hw : Wanted (visG g1 (fun m => (AT.getD k []).contains m) U) ops o' true)
      (hs : PS P (visG g1 (fun m => (AT.getD k []).contains m) U) o'.op o'.type x) (t : UL P N ops AT rs gA g1 o U V) : UL P N ops AT rs gA g1 o U ((k, d, some x) :: V)
theorem UL.spec {o : Oper} {U V : Acc} {rs : List Nat} (h : UL P N ops AT rs gA g1 o U V) : ∀ e ∈ V, (∃ x, e.2.2 = some x ∧ Stab rs gA g1 o x) ∧ (g1 e.2.1 = none ∧ o.dst ≠ some e.2.1) ∧ ∃ o', ops[e.1]? = some o' ∧ o'.dst = some e.2.1 ∧ N.ok e.2.1 = true ∧ StepOk P (visG g1 (fun m => (AT.getD e.1 []).contains m) U) ops o' e.2.2 := by
  induction h with
  | nil => intro e he; cases he
  | c hst h1 hne ho hod hN hw hs _ ih =>
    intro e he
    rcases List.mem_cons.1 he with rfl | he
    · exact ⟨⟨_, rfl, hst⟩, ⟨h1, neD_spec hne⟩, _, ho, hod, hN, .inl ⟨hw, .inl hs⟩⟩
    · exact ih e he
theorem DL.bu (j0 : Nat) {G G2 : List (Nat × AV)} {U : Acc} {o : Oper} {rs : List Nat} (he : EffV P N rs (visG (get G) (fun m => (AT.getD j0 []).contains m) acc) o (get G2)) (hrs : rs.all (fun r => (get G r).isSome) = true) (hg : o.guard = none) (hpd : ndr ((acc.filterMap pendPlace).map Place.root) = true) (hp0 : npB G = true) (hj : Nat.beq ops.size (j0 + l.length + 1) = true)
    (hU : acc.filter (fun e => !(AT.getD j0 []).contains e.1) = U) (hul : UL P N ops AT rs (visG (get G) (fun m => (AT.getD j0 []).contains m) acc) (get G2) o U U)
    (hb : (List.range ops.size).all (fun k => Nat.ble k j0 || (AT.getD k []).contains j0) = true) (hk : DL P N ops AT (get G2) (j0 + 1) U l K) : DL P N ops AT (get G) i acc (o :: l) K := by
  intro U0 j hP hseg hdrop
  have := drop_at hdrop hj
  subst this
  obtain ⟨h1, h2⟩ := drop_cons hdrop
  have hmem : ∀ e ∈ U, e ∈ acc := fun e he => by rw [← hU] at he; exact (List.mem_filter.1 he).1
  have hP1 : PendOk P N ops AT (get G2) (j + 1) U := ⟨fun e he => by have := (hseg.le hP).2 e (hmem e he); omega, fun e he => (hul.spec e he).2.1.1, by rw [← hU]; exact (List.filter_sublist.map _).nodup (hseg.nodup hP), fun e he e' he' h => hseg.uniq hP (hmem e he) (hmem e' he') h, fun e he => (hul.spec e he).2.2⟩
  obtain ⟨g', hr, hK⟩ := hk U (j + 1) hP1 .nil h2
  refine ⟨g', .bar hseg (ndr_spec hpd) (npB_spec hp0) h1 ?_ he (fun r hr e => by have := List.all_eq_true.1 hrs r hr; rw [e] at this; cases this) hU.symm (fun e h => (hul.spec e h).1) (fun e h => (hul.spec e h).2.1) (fun e h => (hul.spec e h).2.2) ?_ hr, hK⟩
  · unfold Wanted; rw [hg]
  · refine List.all_eq_true.2 fun k hk => ?_
    have := List.all_eq_true.1 hb k hk
    simp only [Bool.or_eq_true, decide_eq_true_eq, Nat.ble_eq] at this ⊢
    exact this
theorem EffV.box {o : Oper} {r : Nat} {x : AV} {G1 G2 : List (Nat × AV)} (he : EO P N (get G1) o (get G2)) (hr : g r = some x) [hx : NRc x] (hk : Trim false g (get G1) G1) (h0 : get G1 r = none) (h1 : get G2 r = none) (hd : neD o.dst r = true) : EffV P N [r] g o (get ((r, x) :: G2)) := by
  rw [← get_cons]
  exact he.eff.frame hr hx.nr hk.keep h0 h1 (neD_spec hd)
theorem EO.sO {o : Oper} {k0 : Nat} {cs cs' cs2 : List AV} {G2 : List (Nat × AV)} (ho : o.op = .store t a b) (hd : o.dst = none) (hs : g r = some (.obj cs)) (ha : Rd g a (.ptr ⟨r, []⟩ k0)) (hb : Rd g b y) [hn : NRc y] (hc : cellsP y = some cs') (hz : sizeT P t cs'.length = true)
    (hk : Nat.ble (k0 + cs'.length) cs.length = true) (h0 : Nat.blt 0 cs'.length = true) (he : splice cs k0 cs' = cs2) [hno : NRl cs] (hr : (get G2 r).isSome = true) (hG : TrS g (get G2) r cs2 G2) : EO P N g o (get G2) :=
  .box ho hd hs ha hb hn.nr hc hz (Nat.le_of_ble_eq_true hk) (by simpa using h0) he (by intro e; rw [e] at hr; cases hr) hG
end
end Go.Own
namespace Go.Own
open Go
section
variable {α : Type}
theorem Vws.app {xs ys xs' ys' : List AV} (h : Vws xs ys) (h' : Vws xs' ys') : Vws (xs ++ xs') (ys ++ ys') := ⟨by simp [h.l, h'.l], fun g k a b ha hb => by
  by_cases hk : k < xs.length
  · rw [List.getElem?_append_left hk] at ha
    rw [List.getElem?_append_left (by rw [h.l]; exact hk)] at hb
    exact h.v g k a b ha hb
  · rw [List.getElem?_append_right (by omega)] at ha
    rw [List.getElem?_append_right (by rw [h.l]; omega), h.l] at hb
    exact h'.v g _ a b ha hb⟩
instance {e e' : En α} {L : List α} [h : Tw e e'] : Vws (rowc e L) (rowc e' L) := ⟨(vws_rowc e e' L).1, (vws_rowc e e' L).2⟩
theorem Vw.pn {en en' : En α} {L M : List α} {m : Nat} {new new' : List AV} [h : Tw en en'] (hn : rowc en' M = new') (hm : M.length = m) [h' : Vws new new'] : Vw (.own en.z (L.length + m) (rowc en L ++ new)) (iR en' (L ++ M)) := ⟨fun g => by
  subst hn hm
  have hv := Vws.app (inferInstance : Vws (rowc en L) (rowc en' L)) h'
  show View g (.own en.z (L.length + M.length) (rowc en L ++ new)) (.imm en'.z (L ++ M).length (rowc en' (L ++ M)))
  have e : rowc en' (L ++ M) = rowc en' L ++ rowc en' M := by simp [rowc]
  rw [e, List.length_append, ← h.z]
  exact .own hv.l (hv.v g)⟩
end
end Go.Own
namespace Go.Own
open Go
section
variable {α : Type} {g g2 : Gst} {p q : Place} {P : Program} {a b : Operand} {t : TypeId} {ty : TypeId}
def noP (r : Nat) (acc : Acc) : Bool := acc.all fun e => match e.2.2 with
  | some (.pend _ q _ _ _) => !Nat.beq q.root r
  | _ => true
theorem noP_spec {acc : Acc} {G : List (Nat × AV)} {A : Nat → Bool} (h : noP p.root acc = true) (hG : npB G = true) : ∀ t z n m new, visG (get G) A acc t ≠ some (.pend z p n m new) := by
  intro t z n m new e
  rcases visG_some e with ⟨e', he, _, _, h2⟩ | ⟨_, h2⟩
  · have := List.all_eq_true.1 h e' he
    rw [h2] at this
    simp at this
  · exact npB_spec hG _ _ _ _ _ _ h2
namespace O
theorem apL' {en : En α} {L M r : List α} {e b0 m : Nat} {cs : List AV} (hs : Rd g a (.brw en.z p L.length)) (hp : atP g p = some (oR en L)) (hx : Rd g b (.brw en.z q m)) (hq : atP g q = some (.own en.z m cs)) (hl : cs.length = m * en.z) (hf : cs.all flatB = true) (hm : M.length = m) (ht : appT P t e en.z b0 = true) (hb : Nat.ble b0 128 = true) (h : appO L M = some r)
    (hno : ∀ t z n m new, g t ≠ some (.pend z p n m new)) : PS P g (.call { callee := .builtin .append, args := #[a, b], argTypes := #[t, t] }) ty (.pend en.z p L.length m cs) := by
  subst hm
  obtain ⟨h1, h2, _⟩ := app_bound h hb
  exact .pa (.grow hs.opd (.inl ⟨_, hp⟩) (fun t z' n' m' new' e => hno _ _ _ _ _ e) hx.opd (src_lit hq hl hf) ht h1 h2)
end O
end
end Go.Own
namespace Go.Own
open Go Go.RowKit Go.ChangeShapes Go.WideShapes Go.Deep
variable {α β σ : Type} {P : Program}
abbrev R0 (w : World) (y : AV) (u : Value) : Prop := R w (fun b => b < w.heap.size) (fun _ _ => False) y u (fun _ => False)
def RL (w : World) (ys : List AV) (cs : List Value) : Prop :=
  ys.length = cs.length ∧ ∀ (k : Nat) (y : AV) (u : Value), ys[k]? = some y → cs[k]? = some u → u.oneCell' = true ∧ R0 w y u
theorem RL.one {w : World} {y : AV} {u : Value} (h1 : u.oneCell' = true) (h : R0 w y u) : RL w [y] [u] :=
  ⟨rfl, fun k y' u' hy hu => by
    cases k with
    | zero => simp at hy hu; subst hy hu; exact ⟨h1, h⟩
    | succ k => simp at hy⟩
structure Ar (P : Program) (e : En α) (t : TypeId) (ok : α → Prop) : Prop where
  z : P.cellsOf t = e.z
  go : ∀ {H : Type} {enc : TypeId × Value → H} {w : World} {n : Nat} {cs : List Value} {x : DataW H × List MemPlace},
    DataW.trod enc P w 0 (fun _ => true) true n t cs = some x → ∃ a, ok a ∧ RL w (e.cells a) cs
theorem Ar.int {e : En Int} {t : TypeId} {k : IntKind} (ht : P.underlying t = some (.int k)) (hz : P.cellsOf t = e.z) (he : ∀ n, e.cells n = [.lit (.int k n)]) :
    Ar P e t (fun n => (Lit.int k n).wf = true) := by
  refine ⟨hz, fun h => ?_⟩
  obtain ⟨n, rfl, _, hw⟩ := DataW.trod_int ht h
  exact ⟨n, hw, he n ▸ RL.one rfl (.lit rfl fun _ h => h)⟩
theorem rowc_nth (e : En α) (hz : 0 < e.z) : ∀ (l : List α) (k : Nat) (y : AV), (rowc e l)[k]? = some y → ∃ a, l[k / e.z]? = some a ∧ (e.cells a)[k % e.z]? = some y
  | [], k, y, h => by simp [rowc] at h
  | a :: l, k, y, h => by
    have he : rowc e (a :: l) = e.cells a ++ rowc e l := by simp [rowc]
    rw [he] at h
    by_cases hk : k < e.z
    · rw [List.getElem?_append_left (by rw [e.len]; exact hk)] at h
      exact ⟨a, by simp [Nat.div_eq_of_lt hk], by rw [Nat.mod_eq_of_lt hk]; exact h⟩
    · rw [List.getElem?_append_right (by rw [e.len]; omega), e.len] at h
      obtain ⟨b, h1, h2⟩ := rowc_nth e hz l (k - e.z) y h
      have hd : k / e.z = (k - e.z) / e.z + 1 := by rw [Nat.div_eq_sub_div hz (by omega)]
      refine ⟨b, by rw [hd]; simpa using h1, ?_⟩
      rw [Nat.mod_eq_sub_mod (by omega)]; exact h2
theorem Ar.slice {e : En α} {t te : TypeId} {ok : α → Prop} (h : Ar P e te ok) (ht : P.underlying t = some (.slice te)) (hz : P.cellsOf t = 1) (hpos : 0 < e.z) :
    Ar P (eM e) t (fun l => l.length ≤ maxLen ∧ ∀ x ∈ l, ok x) := by
  classical
  refine ⟨hz, fun {H enc w n cs x} hr => ?_⟩
  rcases open_slice ht hr with ⟨rfl, rfl⟩ | ⟨a, len, cap, m, n', D, Pl, rfl, hb, hl, hm, hmm, rfl, hx⟩
  · exact ⟨[], ⟨by simp, by simp⟩, RL.one rfl (.imm0 fun _ h => h)⟩
  · have hmc : m = cap := by simpa using hmm
    subst hmc
    have hex : ∀ i, i < len → ∃ q : α × List Value, ok q.1 ∧ RL w (e.cells q.1) q.2 ∧ w.cells? 0 (a.add (i * P.cellsOf te)) (P.cellsOf te) = some q.2 := fun i hi => by
      obtain ⟨cs', h1, h2⟩ := hx i (by omega)
      obtain ⟨b, hb1, hb2⟩ := h.go h2
      exact ⟨(b, cs'), hb1, hb2, h1⟩
    by_cases h0 : len = 0
    · subst h0
      exact ⟨[], ⟨by simp, by simp⟩, RL.one rfl (.imm0 fun _ h => h)⟩
    · obtain ⟨q0, _⟩ := hex 0 (by omega)
      haveI : Inhabited (α × List Value) := ⟨q0⟩
      obtain ⟨f, hf⟩ := choose_lt hex
      have hlen : ((List.range len).map fun i => (f i).1).length = len := by simp
      have hget : ∀ (i : Nat) (b : α), ((List.range len).map fun i => (f i).1)[i]? = some b → i < len ∧ b = (f i).1 := fun i b hi => by
        have hlt := (List.getElem?_eq_some_iff.1 hi).1
        simp at hlt
        simp [hlt] at hi
        exact ⟨hlt, hi.symm⟩
      have hsp : a.spot = none ∧ a.block < w.heap.size := by
        obtain ⟨_, _, h3⟩ := hf 0 (by omega)
        obtain ⟨_, hl3, h5⟩ := World.cells?_some h3
        have h6 := h5 0 (by rw [h.z]; exact hpos)
        simp only [Nat.zero_mul, Addr.add, if_true] at h6
        have : 0 < (f 0).2.length := by rw [hl3, h.z]; exact hpos
        rw [List.getElem?_eq_getElem this] at h6
        unfold World.cell? at h6
        split at h6
        · rename_i hh
          refine ⟨?_, (Array.getElem?_eq_some_iff.1 hh).1⟩
          cases hs : a.spot with
          | none => rfl
          | some s => simp [hs] at h6
        · cases h6
      have key : ∀ (k : Nat) (y : AV), (rowc e ((List.range len).map fun i => (f i).1))[k]? = some y → ∃ u, w.cell? ⟨a.block, a.off + k, none⟩ = some u ∧ u.oneCell' = true ∧ R0 w y u := fun k y hk => by
        obtain ⟨b, hb1, hb2⟩ := rowc_nth e hpos _ k y hk
        obtain ⟨hi, rfl⟩ := hget _ _ hb1
        obtain ⟨_, h2, h3⟩ := hf _ hi
        obtain ⟨_, hl3, h5⟩ := World.cells?_some h3
        have hmod : k % e.z < e.z := Nat.mod_lt _ hpos
        have h6 := h5 (k % e.z) (by rw [h.z]; exact hmod)
        rw [Deep.add_add, h.z] at h6
        have hk2 : k / e.z * e.z + k % e.z = k := by rw [Nat.mul_comm]; exact Nat.div_add_mod k e.z
        rw [hk2] at h6
        have hlt : k % e.z < (f (k / e.z)).2.length := by rw [hl3, h.z]; exact hmod
        rw [List.getElem?_eq_getElem hlt] at h6
        have ha : a.add k = ⟨a.block, a.off + k, none⟩ := by
          unfold Addr.add
          split
          · rename_i h00; subst h00; cases a; simp at hsp ⊢; exact hsp.1
          · rfl
        rw [ha] at h6
        exact ⟨_, h6, h2.2 _ _ _ hb2 (List.getElem?_eq_getElem hlt)⟩
      refine ⟨(List.range len).map fun i => (f i).1, ⟨by rw [hlen]; omega, fun y hy => ?_⟩, RL.one rfl ?_⟩
      · obtain ⟨i, hi, rfl⟩ := List.mem_map.1 hy
        exact (hf i (List.mem_range.1 hi)).1
      · show R0 w (.imm e.z _ _) _
        rw [hlen]
        refine .imm (us := fun k => (w.cell? ⟨a.block, a.off + k, none⟩).getD .nilFunc) (fun _ h => h) hl hsp.2 hsp.1 (by rw [rowc_len, hlen]) (fun k y hk => ?_) (fun k y hk => ?_) (fun k y hk => ?_)
        · obtain ⟨u, h1, h2, h3⟩ := key k y hk
          simp only [h1, Option.getD_some]; exact h2
        · obtain ⟨u, h1, h2, h3⟩ := key k y hk
          simp only [h1, Option.getD_some]
        · obtain ⟨u, h1, h2, h3⟩ := key k y hk
          simp only [h1, Option.getD_some]; exact h3
def fieldsB (P : Program) : Nat → List Field → List TypeId → Bool
  | _, [], [] => true
  | off, f :: fs, t :: ts => decide (f.type = t) && decide (f.offset = off) && fieldsB P (off + P.cellsOf t) fs ts
  | _, _, _ => false
structure ArL (P : Program) (cells : β → List AV) (ts : List TypeId) (ok : β → Prop) : Prop where
  go : ∀ {H : Type} {enc : TypeId × Value → H} {w : World} {n : Nat} {cs : List Value} {fs : List Field} {off : Nat}, fieldsB P off fs ts = true → cs.length = off + (ts.map P.cellsOf).sum →
    (∀ (i : Nat) (f : Field), fs[i]? = some f → ∃ x, DataW.trod enc P w 0 (fun _ => true) true n f.type ((cs.drop f.offset).take (P.cellsOf f.type)) = some x) →
    ∃ b, ok b ∧ RL w (cells b) (cs.drop off)
inductive ArgR (w : World) : AV → Value → Prop
  | mk {y : AV} {v : Value} (h : R0 w y v) : ArgR w y v
theorem Ar.one {e : En α} {t : TypeId} {ok : α → Prop} {g : α → AV} (h : Ar P e t ok) (he : ∀ a, e.cells a = [g a]) {H : Type} {enc : TypeId × Value → H} {w : World} {v : Value} {d : DataW H} {p : List MemPlace} (hv : v.cells.toList = [v])
    (ht : DataW.Trod enc P w 0 (fun _ => true) true t v d p) : ∃ a, ok a ∧ ArgR w (g a) v := by
  obtain ⟨n, hn⟩ := ht
  obtain ⟨a, ha, hR⟩ := h.go hn
  refine ⟨a, ha, .mk ?_⟩
  rw [hv, he] at hR
  exact (hR.2 0 _ _ rfl rfl).2
theorem Ar.oneS {e : En α} {t te : TypeId} {ok : List α → Prop} (h : Ar P (eM e) t ok) (hu : P.underlying t = some (.slice te)) {H : Type} {enc : TypeId × Value → H} {w : World} {v : Value} {d : DataW H} {p : List MemPlace} {base : Nat} (hv : Value.okWide P w .any base t v)
    (ht : DataW.Trod enc P w 0 (fun _ => true) true t v d p) : ∃ a, ok a ∧ ArgR w (iR e a) v := by
  obtain ⟨a, l, c, rfl⟩ := okWide_slice hu hv
  exact h.one (fun _ => rfl) rfl ht
theorem Ar.oneI {e : En Int} {t : TypeId} {k : IntKind} {ok : Int → Prop} {g : Int → AV} (h : Ar P e t ok) (he : ∀ a, e.cells a = [g a]) (hu : P.underlying t = some (.int k)) {H : Type} {enc : TypeId × Value → H} {w : World} {v : Value} {d : DataW H} {p : List MemPlace} {base : Nat} (hv : Value.okWide P w .any base t v)
    (ht : DataW.Trod enc P w 0 (fun _ => true) true t v d p) : ∃ a, ok a ∧ ArgR w (g a) v := by
  obtain ⟨n, rfl⟩ := okWide_int hu hv
  exact h.one he rfl ht
inductive ArgsR (w : World) : List AV → List Value → Prop
  | nil : ArgsR w [] []
  | cons {y : AV} {v : Value} {ys : List AV} {vs : List Value} (h : ArgR w y v) (hs : ArgsR w ys vs) : ArgsR w (y :: ys) (v :: vs)
theorem ArgsR.get {w : World} {ys : List AV} {vs : List Value} (h : ArgsR w ys vs) : ys.length = vs.length ∧ ∀ (k : Nat) (y : AV), ys[k]? = some y → ∃ v, vs[k]? = some v ∧ R0 w y v := by
  induction h with
  | nil => exact ⟨rfl, fun k y h => by simp at h⟩
  | cons h _ ih =>
    refine ⟨by simp [ih.1], fun k y hy => ?_⟩
    cases k with
    | zero =>
      simp at hy; subst hy
      obtain ⟨h⟩ := h
      exact ⟨_, rfl, h⟩
    | succ k => simpa using ih.2 k y (by simpa using hy)
theorem ArgsR.sr {w : World} {ys : List AV} {vs : List Value} (h : ArgsR w ys vs) (hp : ys.all (fun y => match y with | .pend .. => false | _ => true) = true) :
    SR w (fun b => b < w.heap.size) vs.toArray (argG ys) (fun _ => E0) := by
  refine ⟨fun t x hx => ?_, fun _ _ _ h => h, fun _ _ _ h => h.elim, fun _ _ h => h.elim, fun _ h => h, fun t t' z p n m new z' n' m' new' h1 _ => ?_⟩
  · obtain ⟨v, hv, hR⟩ := h.get.2 t x hx
    exact ⟨v, by simpa using hv, .tree (hR.frame (fun _ _ => rfl) (fun _ h => h) (fun _ _ h => h.elim) (fun _ _ => rfl))⟩
  · have := List.all_eq_true.1 hp _ (List.mem_of_getElem? h1)
    cases this
theorem Con.walkA {f : FuncId} {ys : List AV} {vs : List Value} {outs : List (Option AV)} {r : Value} (hc : Con P f ys outs (.lit r)) (w : World) (h : ArgsR w ys vs) (hp : ys.all (fun y => match y with | .pend .. => false | _ => true) = true) :
    Calls P f vs.toArray w fun e w' => e = .returned r ∧ Grown w w' ∧ ∀ i : Nat, i < w.heap.size → w'.heap[i]? = w.heap[i]? := by
  have := hc.2 w _ vs _ h.get.1.symm (h.sr hp)
  refine this.mono ?_
  rintro e w' ⟨v, I', Fs', rfl, hS, hst⟩
  obtain ⟨u, hu, hR⟩ := hS.rel outs.length (.lit r) (by simp [outG])
  have hl : outs.length = vs.length := by rw [hc.1]; exact h.get.1
  have huv : u = v := by
    rw [hl] at hu
    simpa using hu.symm
  subst huv
  have hv := (hR.isTree (by simp)).inv_lit.1
  subst hv
  have hb : ∀ i : Nat, i < w.heap.size → w'.heap[i]? = w.heap[i]? := fun i hi => hst.fr.block i hi fun ⟨_, h⟩ => h
  refine ⟨rfl, ⟨⟨hst.fr.os, hst.fr.output, fun i hi => ?_⟩, hst.fr.fz, hst.fr.size⟩, hb⟩
  rw [hb i hi]
  exact (World.keptBut_refl w (fun _ => False)).2.2 i hi
theorem trodAll_old {H : Type} {enc : TypeId × Value → H} {w w' : World} {base : Nat} {sp : Nat → Bool} {held : Bool} (hb : ∀ i : Nat, i < w.heap.size → w'.heap[i]? = w.heap[i]?) :
    ∀ {ts : List TypeId} {vs : List Value} {ds : List (DataW H)} {ps : List MemPlace}, DataW.TrodAll enc P w base sp held ts vs ds ps → DataW.TrodAll enc P w' base sp held ts vs ds ps
  | [], [], [], _, h => h
  | _ :: _, _ :: _, _ :: _, _, ⟨p, q, ⟨n, hn⟩, h2, e⟩ => by
    refine ⟨p, q, ⟨n, DataW.trod_carry n _ _ _ hn fun x hx => ?_⟩, trodAll_old hb h2, e⟩
    have hlt := DataW.trod_lt n _ _ _ hn x hx
    cases x with
    | cell b off =>
      show w'.cell? _ = w.cell? _
      exact World.cell?_of_block (hb b hlt)
    | map b => exact hb b hlt
theorem args_again {H : Type} {enc : TypeId × Value → H} {w w' : World} (hl : laidOutB P = true) (hm : mapsRowed P = true)
    (hz : ((List.range P.types.size).all fun t => match P.underlying t with | some (.slice e) => decide (0 < P.cellsOf e) | _ => true) = true)
    (hb : ∀ i : Nat, i < w.heap.size → w'.heap[i]? = w.heap[i]?) {ts : List TypeId} {vs : List Value} {ds : List (DataW H)} {ps : List MemPlace} (ht : ts.all (fun t => decide (t < P.types.size)) = true)
    (h : DataW.TrodAll enc P w 0 (fun _ => true) true ts vs ds ps) {sp : Nat → Bool} (hsp : ∀ p ∈ ps, sp p.block = true) : DataW.TrodAll enc P w' 0 sp true ts vs ds ps :=
  (trodAll_old hb h).respare (kids_rows hl hm) (slices_full_of P hz) (fun t h => of_decide_eq_true (List.all_eq_true.1 ht t h)) hsp
end Go.Own
namespace Go.Own
open Go
section
variable {α β : Type} {P : Program} {N : Rm} {g g1 : Gst} {p : Place} {m : Int} {a b : Operand} {t : TypeId}
theorem AV.at_app1 : ∀ (l : List Nat) {x nd : AV} {k : Nat} {c : AV}, x.at l = some nd → nd.kids[k]? = some c → x.at (l ++ [k]) = some c
  | [], x, nd, k, c, h, hk => by
    simp only [AV.at, Option.some.injEq] at h
    subst h
    simp [AV.at, hk]
  | j :: l, x, nd, k, c, h, hk => by
    simp only [AV.at] at h
    cases hj : x.kids[j]? with
    | none => rw [hj] at h; cases h
    | some y =>
      rw [hj] at h
      simp only [List.cons_append, AV.at, hj]
      exact AV.at_app1 l h hk
theorem el_cell {en : En α} {L : List α} {yy : α} {o : Nat} {c : AV} (h : idx L m = some yy) (hc : (en.cells yy)[o]? = some c) : (oR en L).kids[m.toNat * en.z + o]? = some c := rowc_at en h hc
theorem atP_el {en : En α} {L : List α} {yy : α} {r o : Nat} {path : List Nat} {c : AV} (hp : atP g ⟨r, path⟩ = some (oR en L)) (h : idx L m = some yy) (hc : (en.cells yy)[o]? = some c) : atP g ⟨r, path ++ [m.toNat * en.z + o]⟩ = some c := by
  unfold atP at hp ⊢
  simp only at hp ⊢
  cases hx : g r with
  | none => rw [hx] at hp; cases hp
  | some x =>
    rw [hx] at hp
    exact AV.at_app1 path hp (el_cell h hc)
end
end Go.Own
/- Short forms for printed walks. -/
namespace Go.Own
open Go
section
variable {P : Program} {N : Rm} {ops : Array Oper} {AT : List (List Nat)} {g g0 : Gst} {K : Gst → Prop} {l : List Oper} {acc : Acc} {d i : Nat} {op : Op} {ty : TypeId} {pos : String} {after : Array Edge} {x : AV}
theorem Rv (hp : PS P g op ty x) (hk : RunL P N ops l (upd g d x) K) (hN : N.ok d = true := by rfl) (hf : g d = none := by rfl) : RunL P N ops (⟨some d, op, ty, pos, after, none⟩ :: l) g K := .v hp hN hf .none hk
theorem Rc (hp : PC P g op x) (hk : RunL P N ops l (upd g d x) K) (hN : N.ok d = true := by rfl) (hf : g d = none := by rfl) : RunL P N ops (⟨some d, op, ty, pos, after, none⟩ :: l) g K := .c hp hN hf .none hk
theorem Dv (j0 : Nat) (hp : PS P (vis AT g0 j0 acc) op ty x) (hk : DL P N ops AT g0 i ((j0, d, some x) :: acc) l K) (hj : Nat.beq ops.size (j0 + l.length + 1) = true := by rfl) (hf : g0 d = none := by rfl) (hn : acc.all (fun e => !Nat.beq e.2.1 d) = true := by rfl) (hN : N.ok d = true := by rfl) :
    DL P N ops AT g0 i acc (⟨some d, op, ty, pos, after, none⟩ :: l) K := .v j0 hp hj hf hn hN .none hk
theorem Dc (j0 : Nat) (hp : PC P (vis AT g0 j0 acc) op x) (hk : DL P N ops AT g0 i ((j0, d, some x) :: acc) l K) (hj : Nat.beq ops.size (j0 + l.length + 1) = true := by rfl) (hf : g0 d = none := by rfl) (hn : acc.all (fun e => !Nat.beq e.2.1 d) = true := by rfl) (hN : N.ok d = true := by rfl) :
    DL P N ops AT g0 i acc (⟨some d, op, ty, pos, after, none⟩ :: l) K := .c j0 hp hj hf hn hN .none hk
end
instance {z n : Nat} {cs : List AV} : NPc (.own z n cs) := ⟨by simp⟩
def rn (a n : Nat) (l : List Nat) : List Nat := List.range' a n ++ l
end Go.Own
