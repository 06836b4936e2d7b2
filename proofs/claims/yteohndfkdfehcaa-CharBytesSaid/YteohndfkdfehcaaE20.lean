import Derived.Test.YteohndfkdfehcaaE19
namespace Go.Own
open Go

/-- What is kept behind an operation that changes the state. -/
structure Keep (g1 g2 : Gst) : Prop where
  sub : ∀ t x, g2 t = some x → g1 t = some x
  rk : ∀ t x, g2 t = some x → RK g2 x
  np : ∀ t z q n m new, g2 t ≠ some (.pend z q n m new)

def cellsP : AV → Option (List AV)
  | .agg cs => some cs
  | .lit v => some [.lit v]
  | .nils => some [.nils]
  | .imm z n cs => some [.imm z n cs]
  | .own z n cs => some [.own z n cs]
  | .obj cs => some [.obj cs]
  | .iptr cs => some [.iptr cs]
  | .clo f a b => some [.clo f a b]
  | _ => none

def sizeT (P : Program) (t : TypeId) (m : Nat) : Bool :=
  match P.info? t with
  | some i => i.size == m
  | none => false

/-- A function's slots: how many, and which of them stay as they came. -/
structure Rm where
  size : Nat
  pins : List Nat

def Rm.ok (N : Rm) (d : Nat) : Bool := Nat.blt d N.size && !N.pins.elem d

def Hold (N : Rm) (T T' : Array Value) : Prop := T'.size = T.size ∧ ∀ t ∈ N.pins, T'[t]? = T[t]?

theorem Hold.refl {N : Rm} {T : Array Value} : Hold N T T := ⟨rfl, fun _ _ => rfl⟩
theorem Hold.trans {N : Rm} {T T1 T2 : Array Value} (h : Hold N T T1) (h1 : Hold N T1 T2) : Hold N T T2 := ⟨h1.1.trans h.1, fun t ht => (h1.2 t ht).trans (h.2 t ht)⟩
theorem Rm.lt {N : Rm} {d : Nat} (h : N.ok d = true) : d < N.size := by
  simp [Rm.ok] at h; exact h.1
theorem Hold.put {N : Rm} {d : Nat} (h : N.ok d = true) (T : Array Value) (v : Value) : Hold N T (T.setIfInBounds d v) := by
  refine ⟨by simp, fun t ht => ?_⟩
  rw [Array.getElem?_setIfInBounds_ne]
  rintro rfl
  simp [Rm.ok, ht] at h

inductive EO (P : Program) (N : Rm) (g : Gst) : Oper → Gst → Prop
  | assign {o : Oper} {d : Nat} {x : Operand} {y y' : AV} {g1 g2 : Gst} (ho : o.op = .assign x) (hd : o.dst = some d) (hx : opd g x = some y) (ht : Take g [y] [y'] g1) (hk : Keep g1 g2) (hg : g2 d = none) (hN : N.ok d = true) : EO P N g o (upd g2 d y')
  | assignRef {o : Oper} {d : Nat} {x : Operand} {y : AV} {g2 : Gst} (ho : o.op = .assign x) (hd : o.dst = some d) (hx : opd g x = some y) (hk : Keep g g2) (hy : RK g2 y) (hg : g2 d = none) (hN : N.ok d = true) : EO P N g o (upd g2 d y)
  | store {o : Oper} {t : TypeId} {ad val : Operand} {p : Place} {k z n : Nat} {y y' nd : AV} {cs cs' : List AV} {g1 g2 : Gst} (ho : o.op = .store t ad val) (hd : o.dst = none) (had : opd g ad = some (.ptr p k)) (hval : opd g val = some y) (ht : Take g [y] [y'] g1)
      (hc : cellsP y' = some cs') (hs : sizeT P t cs'.length = true) (hp : atP g1 p = some nd) (hnd : nd = .own z n cs ∨ nd = .obj cs) (hk : k + cs'.length ≤ cs.length) (h0 : 0 < cs'.length)
      (hg2 : ∀ t x, g2 t = some x → setP g1 p (nd.splice k cs') t = some x) (hrk : ∀ t x, g2 t = some x → ∀ y, g1 t = some y → RKp (fun r => RefOk g1 r ∧ Clear p k cs'.length r ∧ RefOk g2 r) y) (hnp : ∀ t z q n m new, g2 t ≠ some (.pend z q n m new)) (hroot : g2 p.root ≠ none) : EO P N g o g2

section
variable {P : Program} {w : World} {I : BSet} {T : Array Value} {g : Gst} {Fs : Nat → BSet}

theorem Hand.one {y : AV} {v : Value} (hR : R w I (RG w T g) y v E0) : Hand w I (RefAt w T) Fs [y] [v] (fun _ => E0) :=
  ⟨rfl, fun k x u hx hu => by
    cases k with
    | zero => simp at hx hu; subst hx hu; exact hR.frame (fun _ _ => rfl) (fun _ h => h) (fun _ _ h => h.1) fun _ _ => rfl
    | succ k => simp at hx, fun _ _ _ _ _ h => h.elim, fun _ _ _ _ h => h.elim, fun _ _ _ h => h.elim⟩

theorem Hand.rel0 {ρ : AV → Value → Prop} {y : AV} {v : Value} {Hs : Nat → BSet} (h : Hand w I ρ Fs [y] [v] Hs) : R w I ρ y v (Hs 0) := h.rel 0 y v rfl rfl

/-- The cells of a value in hand. -/
theorem Hand.cells {y : AV} {v : Value} {Hs : Nat → BSet} (h : Hand w I (RefAt w T) Fs [y] [v] Hs) (hn : NR y) {cs : List AV} (hc : cellsP y = some cs) :
    ∃ Hc, Hand w I (RefAt w T) Fs cs v.cells.toList Hc ∧ (∀ x ∈ cs, NR x) ∧ (∀ (j : Nat) (u : Value), v.cells.toList[j]? = some u → u.oneCell' = true) ∧ ∀ j c, j < cs.length → Hc j c → Hs 0 c := by
  have hR := h.rel0
  have single : ∀ {x : AV}, y = x → v.oneCell' = true → ∃ Hc, Hand w I (RefAt w T) Fs [x] v.cells.toList Hc ∧ (∀ z ∈ [x], NR z) ∧ (∀ (j : Nat) (u : Value), v.cells.toList[j]? = some u → u.oneCell' = true) ∧ ∀ j c, j < [x].length → Hc j c → Hs 0 c := by
    rintro x rfl h1
    have hcells : v.cells = #[v] := by cases v <;> first | rfl | (simp [Value.oneCell'] at h1)
    refine ⟨Hs, by rw [hcells]; exact h, by simpa using hn, fun j u hu => ?_, fun j c hj hc => ?_⟩
    · rw [hcells] at hu
      cases j with
      | zero => simp at hu; subst hu; exact h1
      | succ j => simp at hu
    · have : j = 0 := by simpa using hj
      subst this; exact hc
  cases y <;> simp only [cellsP, Option.some.injEq, reduceCtorEq] at hc
  case agg l =>
    subst hc
    cases hR with
    | ref hx => simp [AV.isRef] at hx
    | @agg _ vs Fk _ hl h1 hr hd hF =>
      have hFk : ∀ k c, k < l.length → Fk k c → Hs 0 c := fun k c hk hc => (hF c).2 ⟨k, hk, hc⟩
      refine ⟨Fk, ⟨by simp [Value.cells, hl], fun k x u hx hu => hr k x u hx (by simpa [Value.cells] using hu), hd, fun k t c hk hc => h.off 0 t c (by simp) (hFk k c hk hc), fun k c hk hc => h.imm 0 c (by simp) (hFk k c hk hc)⟩, ?_, fun j u hu => h1 j u (by simpa [Value.cells] using hu), hFk⟩
      cases hn with | agg h => exact h
  case lit a => subst hc; exact single rfl (by obtain ⟨rfl, h1⟩ := hR.inv_lit; exact h1)
  case nils => subst hc; exact single rfl (by rw [hR.inv_nils]; rfl)
  case imm z n l => subst hc; exact single rfl (by obtain ⟨a, cap, rfl, _⟩ := hR.inv_imm; rfl)
  case own z n l => subst hc; exact single rfl (by obtain ⟨a, cap, rfl, _⟩ := hR.own_slice; rfl)
  case iptr l => subst hc; exact single rfl (by obtain ⟨ad, us, rfl, _⟩ := hR.inv_iptr; rfl)
  case obj l =>
    subst hc
    refine single rfl ?_
    cases hR with
    | ref hx => simp [AV.isRef] at hx
    | obj => rfl
  case clo f a b =>
    subst hc
    refine single rfl ?_
    cases hR with
    | ref hx => simp [AV.isRef] at hx
    | clo => rfl

theorem SRc.keep (h : SRc w I T g Fs) {g2 : Gst} (hk : Keep g g2) : SR w I T g2 (fun t c => g2 t ≠ none ∧ Fs t c) :=
  h.toR hk.sub hk.rk fun _ _ _ _ _ _ _ _ _ _ _ h1 => absurd h1 (hk.np _ _ _ _ _ _)

/-- What is asked behind an operation that changes the state. -/
def Next' (N : Rm) (a : Act) (w : World) (I : BSet) (Fs : Nat → BSet) (g' : Gst) (a' : Act) (w' : World) : Prop :=
  a'.defers = a.defers ∧ Hold N a.tmps a'.tmps ∧ ∃ I' Fs', SR w' I' a'.tmps g' Fs' ∧ St w I (fun c => ∃ t, Fs t c) w' I' (fun c => ∃ t, Fs' t c)

theorem upd_updF {Fs' : Nat → BSet} {d : Nat} {F : BSet} {c : Nat} (h : ∃ t, updF Fs' d F t c) : (∃ t, Fs' t c) ∨ F c := by
  obtain ⟨t, h⟩ := h
  unfold updF at h
  split at h
  · exact .inr h
  · exact .inl ⟨t, h⟩

theorem EO.sound (h : SR w I T g Fs) {a : Act} (ha : a.tmps = T) {N : Rm} (hN : a.tmps.size = N.size) {o : Oper} {g' : Gst} (he : EO P N g o g') {K : Act → World → Prop} {Q : Exit → Act → World → Prop}
    (hK : ∀ a' w', Next' N a w I Fs g' a' w' → K a' w') : o.wp P a w K Q := by
  cases he with
  | @assign d x y y' g1 g2 ho hd hx ht hk hg hdN =>
    have hR := opd_sound h hx ha
    obtain ⟨Fs1, H1, hS1, hH1, hall⟩ := ht.sound h.toC (Hand.one hR)
    have hnr : NR y' := ht.nrOut y' (by simp)
    have hS2 := hS1.keep hk
    have hput := hS2.put0 (d := d) (x := y') (v := a.eval x) (F := H1 0) hg (by rw [← ha, hN]; exact Rm.lt hdN) (.tree (hH1.rel0.nr hnr)) (fun t c hc hf => hH1.off 0 t c (by simp) hc hf.2) (fun c hc => hH1.imm 0 c (by simp) hc) (by rintro z p n m new rfl; cases hnr)
    have hrun : (execOp a.eval o).run P w = .ok (.value (a.eval x)) w := by simp [execOp, ho]
    unfold Oper.wp Oper.upon
    simp only [hrun]
    refine hK _ _ ⟨by rw [hd]; rfl, by rw [hd]; exact Hold.put hdN _ _, I, _, by rw [hd]; simpa [Act.put, ha] using hput, ⟨Fr.refl _ _, fun _ h => h, fun _ h => .inl h, fun c hc => ?_⟩⟩
    rcases upd_updF hc with ⟨t, _, h'⟩ | h'
    · rcases hall c (.inl ⟨t, h'⟩) with h'' | ⟨_, _, h''⟩
      · exact .inl h''
      · exact h''.elim
    · rcases hall c (.inr ⟨0, by simp, h'⟩) with h'' | ⟨_, _, h''⟩
      · exact .inl h''
      · exact h''.elim
  | @assignRef d x y g2 ho hd hx hk hy hg hdN =>
    have hR := opd_sound h hx ha
    have hS2 := h.toC.keep hk
    have hR' : R w I (RG w T g2) y (a.eval x) E0 := (hR.frame (ρ' := RefAt w T) (fun _ _ => rfl) (fun _ h => h) (fun _ _ h => h.1) fun _ _ => rfl).rk hy
    have hput := hS2.put0 (d := d) (x := y) (v := a.eval x) (F := E0) hg (by rw [← ha, hN]; exact Rm.lt hdN) (.tree hR') (fun _ _ h => h.elim) (fun _ h => h.elim) (by rintro z p n m new rfl; exact hR'.notPend.elim)
    have hrun : (execOp a.eval o).run P w = .ok (.value (a.eval x)) w := by simp [execOp, ho]
    unfold Oper.wp Oper.upon
    simp only [hrun]
    refine hK _ _ ⟨by rw [hd]; rfl, by rw [hd]; exact Hold.put hdN _ _, I, _, by rw [hd]; simpa [Act.put, ha] using hput, ⟨Fr.refl _ _, fun _ h => h, fun _ h => .inl h, fun c hc => ?_⟩⟩
    rcases upd_updF hc with ⟨t, _, h'⟩ | h'
    · exact .inl ⟨t, h'⟩
    · exact h'.elim
  | @store t ad val p k z n y y' nd cs cs' g1 _ ho hd had hval ht hc hs hp hnd hk h0 hg2 hrk hnp hroot =>
    have hRv := opd_sound h hval ha
    obtain ⟨⟨u, adr, hu, hadr, hev⟩, _⟩ := (opd_sound h had ha).inv_ptr
    obtain ⟨Fs1, H1, hS1, hH1, hall⟩ := ht.sound h.toC (Hand.one hRv)
    have hnr : NR y' := ht.nrOut y' (by simp)
    obtain ⟨Hc, hHc, hcn, hone, hHsub⟩ := hH1.cells hnr hc
    have notPend : ∀ z q n m new, nd ≠ .pend z q n m new := by rcases hnd with rfl | rfl <;> simp
    obtain ⟨v, Fy, hv, hRy, hFy, _⟩ := hS1.part hp notPend
    rw [hu] at hv
    cases hv
    obtain ⟨b, uu, hb, _⟩ := hRy.node hnd (List.getElem?_eq_getElem (show k < cs.length by omega))
    rw [hadr] at hb
    cases hb
    have harr : ∃ e arr, w.heap[b]? = some (.cells arr e (0, 0)) ∧ cs.length ≤ arr.size := by
      rcases hnd with rfl | rfl
      · cases hRy with
        | ref hx => simp [AV.isRef] at hx
        | own hrow hl =>
          obtain ⟨hus, hh⟩ := hrow
          rcases hh with ⟨rfl, _⟩ | ⟨b', cap, cur, rfl, _, r2, r3, r4, r5, r6⟩
          · simp [addrOf] at hadr
          · simp only [addrOf, Option.some.injEq, Addr.mk.injEq, and_true] at hadr
            subst hadr
            refine ⟨_, cur, r2, ?_⟩
            rw [hl, ← r6, List.length_take]; simp; omega
      · cases hRy with
        | ref hx => simp [AV.isRef] at hx
        | obj hrow hl =>
          simp only [addrOf, Option.some.injEq, Addr.mk.injEq, and_true] at hadr
          subst hadr
          exact ⟨_, _, hrow, by omega⟩
    obtain ⟨e, arr, harr, hle⟩ := harr
    obtain ⟨Fs2, hS2, hsub⟩ := hS1.store hp hnd hk hHc hcn hone hg2 hrk hnp hroot hu hadr harr
    have hcl : (a.eval val).cells.toList.length = cs'.length := hHc.len.symm
    have hst := run_storeCells_at P b k e (a.eval val).cells.toList 0 arr w harr (by omega) (fun u hu => by
      obtain ⟨j, hj, rfl⟩ := List.mem_iff_getElem.1 hu
      exact hone j _ (List.getElem?_eq_getElem hj))
    simp only [Nat.add_zero] at hst
    have hsz : (sizeOf t).run P w = .ok cs'.length w := by
      unfold sizeT at hs
      cases hi : P.info? t with
      | none => simp [hi] at hs
      | some i => simp [hi] at hs; simp [sizeOf, typeInfo, hi, hs]
    have hrun : (execOp a.eval o).run P w = .ok .skip (w.setRow b (splice arr.toList k (a.eval val).cells.toList).toArray) := by
      have hcs : (a.eval val).cells.size = cs'.length := by rw [← Array.length_toList]; exact hcl
      simp only [Nat.zero_add] at hev
      simp [execOp, ho, hev, Instr.storeAt, Instr.sureAddr, storeVar, hsz, hcs, hst, splice]
    unfold Oper.wp Oper.upon
    simp only [hrun]
    have hbU : ∃ t, Fs t b := by
      rcases hall b (.inl ⟨_, hFy b (hRy.node_block hnd (ad := ⟨b, 0, none⟩) hadr)⟩) with h' | ⟨_, _, h'⟩
      · exact h'
      · exact h'.elim
    refine hK _ _ ⟨by rw [hd]; rfl, by rw [hd]; exact Hold.refl, I, Fs2, by rw [hd]; simpa [Act.put, ha] using hS2, ⟨⟨rfl, rfl, rfl, by simp, fun c _ hc => setRow_other w b c _ (fun e => hc (e ▸ hbU)), fun a => fz_setRow w b _ a⟩, fun _ h => h, fun _ h => .inl h, fun c ⟨t, hc⟩ => ?_⟩⟩
    rcases hsub t c hc with h' | ⟨j, hj, h'⟩
    · rcases hall c (.inl ⟨t, h'⟩) with h'' | ⟨_, _, h''⟩
      · exact .inl h''
      · exact h''.elim
    · rcases hall c (.inr ⟨0, by simp, hHsub j c hj h'⟩) with h'' | ⟨_, _, h''⟩
      · exact .inl h''
      · exact h''.elim
end
end Go.Own
