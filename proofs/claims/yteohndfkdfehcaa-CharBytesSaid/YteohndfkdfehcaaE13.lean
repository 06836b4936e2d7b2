import Derived.Test.YteohndfkdfehcaaE12
namespace Go.Own
open Go

/-- Append. -/
inductive PSA (P : Program) (g : Gst) : Op → TypeId → AV → Prop
  | grow {s x : Operand} {t e ty : TypeId} {z b n m : Nat} {p : Place} {y : AV} {cells : List AV} (hs : opd g s = some (.brw z p n)) (hok : RefOk g (.pend z p n 0 [])) (hno : ∀ t z' n' m' new', g t ≠ some (.pend z' p n' m' new'))
      (hx : opd g x = some y) (hsrc : Src g y z m cells) (ht : appT P t e z b = true) (h63 : n + m ≤ 4611686018427387904) (hb : (n + m) * b ≤ 140737488355328) :
      PSA P g (.call { callee := .builtin .append, args := #[s, x], argTypes := #[t, t] }) ty (.pend z p n m cells)
  | nil {s x : Operand} {t e ty : TypeId} {z b m : Nat} {y : AV} {cells : List AV} (hs : opd g s = some .nils)
      (hx : opd g x = some y) (hsrc : Src g y z m cells) (ht : appT P t e z b = true) (h63 : m ≤ 4611686018427387904) (hb : m * b ≤ 140737488355328) :
      PSA P g (.call { callee := .builtin .append, args := #[s, x], argTypes := #[t, t] }) ty (.own z m cells)

/-- Operations that hand back a value, without a call. -/
inductive PS (P : Program) (g : Gst) : Op → TypeId → AV → Prop
  | p1 {op : Op} {ty : TypeId} {x : AV} (h : PS1 P g op ty x) : PS P g op ty x
  | p2 {op : Op} {ty : TypeId} {x : AV} (h : PS2 P g op ty x) : PS P g op ty x
  | p3 {op : Op} {ty : TypeId} {x : AV} (h : PS3 P g op ty x) : PS P g op ty x
  | pa {op : Op} {ty : TypeId} {x : AV} (h : PSA P g op ty x) : PS P g op ty x

section
variable {P : Program} {w : World} {I : BSet} {T : Array Value} {g : Gst} {Fs : Nat → BSet}

theorem Cells.frame {w' : World} {cells : List AV} {news : List Value} (hc : Cells w I (RG w T g) cells news) (hI : ∀ c, I c → w'.heap[c]? = w.heap[c]?) (hr : ∀ r v, RG w T g r v → RG w' T g r v) : Cells w' I (RG w' T g) cells news :=
  ⟨hc.1, hc.2.1, fun k x u hx hu => (hc.2.2 k x u hx hu).frame hI (fun _ h => h) hr fun _ h => h.elim⟩

theorem PSA.sound (h : SR w I T g Fs) {a : Act} (ha : a.tmps = T) {o : Oper} {xv : AV} (hp : PSA P g o.op o.type xv) :
    ∃ v w', (execOp a.eval o).run P w = .ok (.value v) w' ∧ Gives w I T g Fs xv v w' := by
  obtain ⟨dst, op, ty, pos, after, guard⟩ := o
  simp only at hp
  cases hp with
  | @grow s x t e _ z b n m p y cells hs hok hno hx hsrc ht h63 hb =>
    obtain ⟨i, zv, hu, hi, rfl, rfl, h0, hz, hzs⟩ := appT_spec ht
    obtain ⟨⟨ba, N, bcap, h1, h2, h3⟩, h4⟩ := (opd_sound h hs ha).inv_brw
    obtain ⟨sa, sc, news, hsv, hl, hsa, hsn, hcs⟩ := hsrc.sound h (opd_sound h hx ha)
    -- the row of the base
    have hrow : N = n ∧ ∃ e' us, w.ownsRow 0 e' i.size (.slice ba n bcap) n us := by
      rcases hok with ⟨cs, hp⟩ | ⟨hp0, q, n0, m0, new, cs, hp, rfl, _⟩
      · obtain ⟨v', Fy, hv', hRy, _⟩ := h.part hp (by simp)
        rw [h1] at hv'
        cases hv'
        obtain ⟨a', cap', hsl, _⟩ := hRy.own_slice
        cases hsl
        cases hRy with
        | own ho => exact ⟨rfl, _, _, ho⟩
        | ref hx => simp [AV.isRef] at hx
      · obtain ⟨v0, hv0, hva0, hR0⟩ := h.slotVal hp
        have hq : (⟨p.root, []⟩ : Place) = p := by cases p; simp_all
        rw [hq, h1] at hva0
        cases hva0
        obtain ⟨bv, e1, e2, us, nw, hR0⟩ := hR0.isPend
        have hN : N = n0 + m0 := by
          obtain ⟨_, hh⟩ := hR0.hov
          rcases hh with ⟨hh, hn⟩ | ⟨g, cap, cur, hh, _⟩
          · cases hh; omega
          · cases hh; rfl
        subst hN
        exact ⟨rfl, _, _, hR0.hov⟩
    obtain ⟨rfl, e', us, hob⟩ := hrow
    have hbv : RG w T g (.pend i.size p N 0 []) (.slice ba N bcap) := ⟨⟨ba, bcap, h1, rfl⟩, hok⟩
    obtain ⟨v', w', e2, hrun, A⟩ := run_app (P := P) (w := w) t ty e e' i zv hu hi hz hzs h0 hob (a := sa) (c := sc) (m := m) (news := news) (fun hm => hsa hm h0) hl hsn (fun u hu => by
      obtain ⟨k, hk, rfl⟩ := List.mem_iff_getElem.1 hu
      exact hcs.2.1 k _ (List.getElem?_eq_getElem hk)) (by unfold maxLen; omega) hb
    obtain ⟨hS, hrefs⟩ := h.app hbv hno A
    refine ⟨v', w', by simp [execOp, resolve, invoke, builtin, h2, hsv, hrun], (fun c => v'.ownBlock = some c ∧ (Value.slice ba N bcap).ownBlock ≠ some c), I, hS, ?_, ?_, ?_, fun _ h => h, fun _ h => .inl h, ?_, ?_⟩
    · have hI : ∀ c, I c → w'.heap[c]? = w.heap[c]? := by
        intro c hc
        refine A.fr.block c (h.lt c hc) fun hb => ?_
        obtain ⟨t, ht⟩ := h.base_block hbv c hb
        exact h.imm t c ht hc
      have hcs' := hcs.frame hI hrefs
      exact .pend ⟨hrefs _ _ hbv, A.old, A.new, hcs'.1, hcs'.2.1, hcs'.2.2, fun c => Iff.rfl⟩
    · rintro t c ⟨hc1, hc2⟩ hf
      rcases A.blk c hc1 with h | h'
      · exact hc2 h
      · have := h.ltF t c hf; omega
    · rintro c ⟨hc1, hc2⟩
      rcases A.blk c hc1 with h' | h'
      · exact absurd h' hc2
      · exact ⟨h', fun hi => by have := h.lt c hi; omega⟩
    · exact A.fr.mono fun c _ hc => h.base_block hbv c hc
    · intro z' p' n' m' new' he
      cases he
      exact hno
  | @nil s x t e _ z b m y cells hs hx hsrc ht h63 hb =>
    obtain ⟨i, zv, hu, hi, rfl, rfl, h0, hz, hzs⟩ := appT_spec ht
    have h2 := (opd_sound h hs ha).inv_nils
    obtain ⟨sa, sc, news, hsv, hl, hsa, hsn, hcs⟩ := hsrc.sound h (opd_sound h hx ha)
    obtain ⟨v', w', e2, hrun, A⟩ := run_app (P := P) (w := w) t ty e e i zv hu hi hz hzs h0 (World.ownsRow_nil w 0 e i.size) (a := sa) (c := sc) (m := m) (news := news) (fun hm => hsa hm h0) hl hsn (fun u hu => by
      obtain ⟨k, hk, rfl⟩ := List.mem_iff_getElem.1 hu
      exact hcs.2.1 k _ (List.getElem?_eq_getElem hk)) (by unfold maxLen; omega) (by simpa using hb)
    have same : ∀ c, c < w.heap.size → w'.heap[c]? = w.heap[c]? := fun c hc => A.fr.block c hc (by simp [Value.ownBlock])
    have hnew := A.new
    simp only [Nat.zero_add, List.nil_append] at hnew
    have hcs' := hcs.frame (fun c hc => same c (h.lt c hc)) fun r v hr => h.ref_same (fun _ _ => rfl) (fun t c hc => same c (h.ltF t c hc)) (fun _ _ h => h) hr
    have hblk : ∀ c, v'.ownBlock = some c → w.heap.size ≤ c := fun c hc => (A.blk c hc).elim (fun h => by simp [Value.ownBlock] at h) id
    refine ⟨v', w', by simp [execOp, resolve, invoke, builtin, h2, hsv, hrun], (fun c => v'.ownBlock = some c), I, h.world (fun t c hc => same c (h.ltF t c hc)) (fun c hc => same c (h.lt c hc)) A.fr.size, ?_, ?_, fun c hc => ⟨hblk c hc, fun hi => by have := h.lt c hi; have := hblk c hc; omega⟩, fun _ h => h, fun _ h => .inl h, ?_, ?_⟩
    · exact .tree (.own (Fs := fun _ => E0) hnew hcs'.1 hcs'.2.1 hcs'.2.2 (fun _ _ _ _ _ h => h.elim) (fun _ _ _ h => h.elim) fun c => ⟨.inl, fun h => h.elim id fun ⟨_, _, h⟩ => h.elim⟩)
    · intro t c hc hf; have := hblk c hc; have := h.ltF t c hf; omega
    · exact A.fr.mono fun c _ hc => by simp [Value.ownBlock] at hc
    · intro z' p' n' m' new' he; cases he

theorem PS.sound (h : SR w I T g Fs) {a : Act} (ha : a.tmps = T) {o : Oper} {xv : AV} (hp : PS P g o.op o.type xv) :
    ∃ v w', (execOp a.eval o).run P w = .ok (.value v) w' ∧ Gives w I T g Fs xv v w' := by
  have noPend : ∀ {v : Value} {F : BSet}, R w I (RG w T g) xv v F → ∀ z p n m new, xv = .pend z p n m new → ∀ t z' n' m' new', g t ≠ some (.pend z' p n' m' new') := by
    rintro v F hR z p n m new rfl
    exact hR.notPend.elim
  cases hp with
  | p1 hp =>
    obtain ⟨v, hr, hR⟩ := hp.sound h ha
    exact ⟨v, w, hr, E0, I, h, .tree hR, fun _ _ h => h.elim, fun _ h => h.elim, fun _ h => h, fun _ h => .inl h, Fr.refl _ _, noPend hR⟩
  | p3 hp =>
    obtain ⟨v, hr, hR⟩ := hp.sound h ha
    exact ⟨v, w, hr, E0, I, h, .tree hR, fun _ _ h => h.elim, fun _ h => h.elim, fun _ h => h, fun _ h => .inl h, Fr.refl _ _, noPend hR⟩
  | p2 hp =>
    obtain ⟨v, ob, hr, hR⟩ := hp.sound h ha
    refine ⟨v, _, hr, _, I, h.alloc ob, .tree hR, fun t c hc hf => ?_, fun c hc => ⟨by rw [hc]; exact Nat.le_refl _, fun hi => by have := h.lt c hi; omega⟩, fun _ h => h, fun _ h => .inl h, Fr.alloc w ob _ (by
      obtain ⟨arr, e, h1⟩ := hR.plainF w.heap.size rfl
      rw [alloc_new] at h1
      exact ⟨arr, e, Option.some.inj h1⟩), ?_⟩
    · have := h.ltF t c hf; omega
    · rintro z p n m new rfl; exact hR.notPend.elim
  | pa hp => exact hp.sound h ha
end
end Go.Own
