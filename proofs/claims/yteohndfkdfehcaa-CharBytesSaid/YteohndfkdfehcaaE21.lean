import Derived.Test.YteohndfkdfehcaaE20
namespace Go.Own
open Go

def Le (g g' : Gst) : Prop := ∀ t x, g t = some x → g' t = some x

section
variable {P : Program} {g g' : Gst}

theorem opd_mono (h : Le g g') {x : Operand} {y : AV} (hy : opd g x = some y) : opd g' x = some y := by
  cases x <;> simp only [opd] at hy ⊢
  case tmp t =>
    cases hx : g t with
    | none => rw [hx] at hy; cases hy
    | some z => rw [hx] at hy; rw [h t z hx]; exact hy
  case const v => exact hy
  case global n => exact hy
  case func f => exact hy

theorem opds_mono (h : Le g g') : ∀ {xs : List Operand} {ys : List AV}, opds g xs = some ys → opds g' xs = some ys
  | [], _, hy => hy
  | x :: xs, ys, hy => by
    simp only [opds] at hy ⊢
    cases hx : opd g x with
    | none => simp [hx] at hy
    | some y =>
      cases hxs : opds g xs with
      | none => simp [hx, hxs] at hy
      | some ys' => simp only [hx, hxs] at hy; simp only [opd_mono h hx, opds_mono h hxs]; exact hy

theorem partsAV_mono (h : Le g g') : ∀ {l : List (Nat × Operand)} {ps : List (Nat × List AV)}, partsAV g l = some ps → partsAV g' l = some ps
  | [], _, hy => hy
  | (i, x) :: l, ps, hy => by
    simp only [partsAV] at hy ⊢
    cases hx : opd g x with
    | none => simp [hx] at hy
    | some y =>
      cases hxs : partsAV g l with
      | none => simp [hx, hxs] at hy
      | some ys' => simp only [hx, hxs] at hy; simp only [opd_mono h hx, partsAV_mono h hxs]; exact hy

theorem Bnd.mono (h : Le g g') {d : Nat} {x : Option Operand} {j : Nat} (hb : Bnd g d x j) : Bnd g' d x j := by
  cases x with
  | none => exact hb
  | some o => obtain ⟨k, hk⟩ := hb; exact ⟨k, opd_mono h hk⟩

theorem PS1.mono (h : Le g g') {op : Op} {ty : TypeId} {x : AV} (hp : PS1 P g op ty x) : PS1 P g' op ty x := by
  cases hp with
  | move hx => exact .move (opd_mono h hx)
  | assign hx => exact .assign (opd_mono h hx)
  | pick hc hr => exact .pick (opd_mono h hc) (opd_mono h hr)
  | nilP hx => exact .nilP (opd_mono h hx)
  | nilI hx => exact .nilI (opd_mono h hx)
  | fieldP hx hf hok => exact .fieldP (opd_mono h hx) hf (hok.mono h)
  | fieldI hx hf => exact .fieldI (opd_mono h hx) hf
  | field1 hx hf ht hy => exact .field1 (opd_mono h hx) hf ht hy
  | fieldN hx hf ht hk => exact .fieldN (opd_mono h hx) hf ht hk
  | idxImm hx hi ht hj => exact .idxImm (opd_mono h hx) (opd_mono h hi) ht hj
  | idxBrw hx hi ht hj hok => exact .idxBrw (opd_mono h hx) (opd_mono h hi) ht hj (hok.mono h)
  | idxSub hx hi ht hj hok => exact .idxSub (opd_mono h hx) (opd_mono h hi) ht hj (hok.mono h)
  | idxArrP hx hi ht hj hok => exact .idxArrP (opd_mono h hx) (opd_mono h hi) ht hj (hok.mono h)
  | idxArrI hx hi ht hj => exact .idxArrI (opd_mono h hx) (opd_mono h hi) ht hj
  | loadI1 hx ht => exact .loadI1 (opd_mono h hx) ht
  | loadIN hx ht hk => exact .loadIN (opd_mono h hx) ht hk
  | load1 hx ht hy => exact .load1 (opd_mono h hx) ht (atP_mono h hy)
  | loadN hx ht hy hc hm => exact .loadN (opd_mono h hx) ht (atP_mono h hy) hc hm
  | idxStr hx hi ht hb => exact .idxStr (opd_mono h hx) (opd_mono h hi) ht hb
  | bin hx hy hv hr => exact .bin (opd_mono h hx) (opd_mono h hy) hv hr
  | un hx hv hr => exact .un (opd_mono h hx) hv hr
  | conv hx hv hr => exact .conv (opd_mono h hx) hv hr
  | convB hx hp hn hcs ht => exact .convB (opd_mono h hx) (atP_mono h hp) hn hcs ht
  | convI hx ht => exact .convI (opd_mono h hx) ht
  | @extF xs tys _ f vs v hx hv hr =>
    refine .extF (vs := vs) ?_ hv hr
    apply List.ext_getElem?
    intro k
    have := congrArg (·[k]?) hx
    simp only [List.getElem?_map] at this ⊢
    rw [← this]
    cases hk : xs.toList[k]? with
    | none => rfl
    | some o =>
      rw [hk] at this
      cases hv : vs[k]? with
      | none => rw [hv] at this; cases this
      | some v =>
        rw [hv] at this
        simp only [Option.map_some, Option.some.injEq] at this ⊢
        rw [this, opd_mono h this]
  | extr hx hy => exact .extr (opd_mono h hx) hy
  | sliceImm hx hl hh ht h1 h2 => exact .sliceImm (opd_mono h hx) (hl.mono h) (hh.mono h) ht h1 h2
  | sliceBrw0 hx hl hh ht hn hok => exact .sliceBrw0 (opd_mono h hx) (hl.mono h) (hh.mono h) ht hn (hok.mono h)
  | sliceBrw hx hl hh ht h1 h2 hok => exact .sliceBrw (opd_mono h hx) (hl.mono h) (hh.mono h) ht h1 h2 (hok.mono h)
  | sliceStr hx hl hh ht h1 h2 => exact .sliceStr (opd_mono h hx) (hl.mono h) (hh.mono h) ht h1 h2
  | lenImm hx ht => exact .lenImm (opd_mono h hx) ht
  | lenBrw hx ht => exact .lenBrw (opd_mono h hx) ht
  | lenSub hx ht => exact .lenSub (opd_mono h hx) ht
  | lenNils hx ht => exact .lenNils (opd_mono h hx) ht
  | @lits b xs tys _ vs v hx hv hr =>
    refine .lits (vs := vs) ?_ hv hr
    clear hr
    generalize xs.toList = l at hx
    induction l generalizing vs with
    | nil => exact hx
    | cons x l ih =>
      cases vs with
      | nil => simp at hx
      | cons v vs =>
        simp only [List.map_cons, List.cons.injEq] at hx ⊢
        exact ⟨opd_mono h hx.1, ih hx.2⟩

theorem PS2.mono (h : Le g g') {op : Op} {ty : TypeId} {x : AV} (hp : PS2 P g op ty x) : PS2 P g' op ty x := by
  cases hp with
  | box hx hc => exact .box (opd_mono h hx) hc
  | alloc hz h1 => exact .alloc hz h1
  | buildSlice ht hp hx hz hc hb hn hzero => exact .buildSlice ht hp (opds_mono h hx) hz hc hb hn hzero
  | makeSlice ht hx hy hzero h1 hzs hb hn hn2 => exact .makeSlice ht (opd_mono h hx) (opd_mono h hy) hzero h1 hzs hb hn hn2

theorem PS3.mono (h : Le g g') {op : Op} {ty : TypeId} {x : AV} (hp : PS3 P g op ty x) : PS3 P g' op ty x := by
  cases hp with
  | build ht hz h1 hp hc => exact .build ht hz h1 (partsAV_mono h hp) hc
  | makeFunc ha hb => exact .makeFunc (opds_mono h ha) (opds_mono h hb)

theorem Src.mono (h : Le g g') {y : AV} {z m : Nat} {cells : List AV} (hs : Src g y z m cells) : Src g' y z m cells := by
  cases hs with
  | imm => exact .imm
  | nils => exact .nils
  | brw hq hm => exact .brw (atP_mono h hq) hm
  | sub hq hm => exact .sub (atP_mono h hq) hm

theorem PS.mono (h : Le g g') {op : Op} {ty : TypeId} {x : AV} (hp : PS P g op ty x) (hno : ∀ z p n m new, x = .pend z p n m new → ∀ t z' n' m' new', g' t ≠ some (.pend z' p n' m' new')) : PS P g' op ty x := by
  cases hp with
  | p1 hp => exact .p1 (hp.mono h)
  | p2 hp => exact .p2 (hp.mono h)
  | p3 hp => exact .p3 (hp.mono h)
  | pa hp =>
    cases hp with
    | grow hs hok _ hx hsrc ht h63 hb => exact .pa (.grow (opd_mono h hs) (hok.mono h) (hno _ _ _ _ _ rfl) (opd_mono h hx) (hsrc.mono h) ht h63 hb)
    | nil hs hx hsrc ht h63 hb => exact .pa (.nil (opd_mono h hs) (opd_mono h hx) (hsrc.mono h) ht h63 hb)

theorem View.mono (h : Le g g') {x y : AV} (hv : View g x y) : View g' x y := by
  induction hv with
  | self h1 h2 h3 h4 h5 => exact .self h1 h2 h3 h4 h5
  | agg hl _ ih => exact .agg hl ih
  | own hl _ ih => exact .own hl ih
  | obj hl _ ih => exact .obj hl ih
  | brw hp hn hl _ ih => exact .brw (atP_mono h hp) hn hl ih
  | sub hp hn hl _ ih => exact .sub (atP_mono h hp) hn hl ih
  | ptr hp hy hk hl _ ih => exact .ptr (atP_mono h hp) hy hk hl ih

theorem PC.mono (h : Le g g') {op : Op} {x : AV} (hp : PC P g op x) : PC P g' op x := by
  cases hp with
  | plain hc hx hf hn hcon hr => exact .plain (opd_mono h hc) (opds_mono h hx) hf hn hcon hr
  | lent hc hx hf hl hv hcon hr => exact .lent (opd_mono h hc) (opds_mono h hx) hf hl (fun k x y hx hy => (hv k x y hx hy).mono h) hcon hr

/-- Is an operation carried out? -/
def Wanted (g : Gst) (ops : Array Oper) (o : Oper) (b : Bool) : Prop :=
  match o.guard with
  | none => b = true
  | some (j, want) => ∃ t c, (ops[j]?).bind (·.dst) = some t ∧ g t = some (.lit (.bool c)) ∧ b = (c == want)

theorem Wanted.mono (h : Le g g') {ops : Array Oper} {o : Oper} {b : Bool} (hw : Wanted g ops o b) : Wanted g' ops o b := by
  unfold Wanted at *
  split
  · rename_i hg; rw [hg] at hw; exact hw
  · rename_i j want hg
    rw [hg] at hw
    obtain ⟨t, c, h1, h2, h3⟩ := hw
    exact ⟨t, c, h1, h t _ h2, h3⟩

theorem Wanted.sound {w : World} {I : BSet} {T : Array Value} {Fs : Nat → BSet} (hS : SR w I T g Fs) {ops : Array Oper} {o : Oper} {b : Bool} (hw : Wanted g ops o b) : Region.wanted o (yielded ops T) = b := by
  unfold Wanted at hw
  unfold Region.wanted
  split at hw
  · rename_i hg; rw [hg]; exact hw.symm
  · rename_i j want hg
    rw [hg]
    obtain ⟨t, c, h1, h2, h3⟩ := hw
    obtain ⟨v, hv, hR⟩ := hS.rel _ _ h2
    have := (hR.isTree (by simp)).inv_lit.1
    subst this
    subst h3
    simp only [yielded, h1, Option.bind_some, hv]
    cases c <;> cases want <;> rfl

/-- What an operation leaves: nothing (it is not carried out), or a value. -/
def StepOk (P : Program) (g : Gst) (ops : Array Oper) (o : Oper) : Option AV → Prop
  | none => Wanted g ops o false
  | some x => Wanted g ops o true ∧ (PS P g o.op o.type x ∨ PC P g o.op x)

theorem StepOk.mono (h : Le g g') {ops : Array Oper} {o : Oper} {r : Option AV} (hs : StepOk P g ops o r) (hno : ∀ z p n m new, r = some (.pend z p n m new) → ∀ t z' n' m' new', g' t ≠ some (.pend z' p n' m' new')) : StepOk P g' ops o r := by
  cases r with
  | none => exact Wanted.mono h hs
  | some x =>
    refine ⟨hs.1.mono h, ?_⟩
    rcases hs.2 with hp | hp
    · exact .inl (hp.mono h fun z p n m new e => hno z p n m new (by rw [e]))
    · exact .inr (hp.mono h)

/-- Nothing leads into it. -/
def leaf : AV → Bool
  | .own .. | .obj .. | .agg .. | .tup .. | .pend .. => false
  | _ => true

def del (g : Gst) (d : Nat) : Gst := fun t => if t = d then none else g t

theorem leaf_at {x y : AV} (h : leaf x = true) : ∀ {q : List Nat}, x.at q = some y → y = x
  | [], hy => by simpa [AV.at] using hy.symm
  | k :: q, hy => by
    have : x.kids = [] := by cases x <;> first | rfl | simp [leaf] at h
    simp [AV.at, this] at hy

theorem atP_del {d : Nat} {x : AV} (hd : g d = some x) (hl : leaf x = true) {p : Place} {y : AV} (hp : atP g p = some y) (hy : leaf y = false) : atP (del g d) p = some y := by
  have hr : p.root ≠ d := by
    intro e
    unfold atP at hp
    rw [e, hd] at hp
    rw [leaf_at hl hp, hl] at hy
    cases hy
  simp only [atP, del, if_neg hr] at hp ⊢
  exact hp

theorem RefOk.del {d : Nat} {x : AV} (hd : g d = some x) (hl : leaf x = true) {r : AV} (h : RefOk g r) : RefOk (del g d) r := by
  have root : ∀ {t : Nat} {y : AV}, g t = some y → leaf y = false → Own.del g d t = some y := by
    intro t y ht hy
    have : t ≠ d := by
      rintro rfl
      rw [hd] at ht
      cases ht
      rw [hl] at hy; cases hy
    simp only [Own.del, if_neg this, ht]
  cases r <;> simp only [RefOk] at h ⊢
  case ptr p k =>
    obtain ⟨y, hy, z, n, cs, hyc, hk⟩ := h
    exact ⟨y, atP_del hd hl hy (by rcases hyc with rfl | rfl <;> rfl), z, n, cs, hyc, hk⟩
  case brw z p n =>
    rcases h with ⟨N, cs, hy, hn⟩ | ⟨h1, q, n0, m, new, h2, h3⟩
    · exact .inl ⟨N, cs, atP_del hd hl hy rfl, hn⟩
    · exact .inr ⟨h1, q, n0, m, new, root h2 rfl, h3⟩
  case sub z p lo n =>
    obtain ⟨N, cs, hy, hn⟩ := h
    exact ⟨N, cs, atP_del hd hl hy rfl, hn⟩
  case pend z p n m new =>
    rcases h with ⟨cs, hy⟩ | ⟨h1, q, n0, m, new, cs, h2, h3, h4⟩
    · exact .inl ⟨cs, atP_del hd hl hy rfl⟩
    · exact .inr ⟨h1, q, n0, m, new, cs, root h2 rfl, h3, atP_del hd hl h4 rfl⟩

theorem R.leafF {w : World} {I : BSet} {ρ : AV → Value → Prop} {x : AV} {v : Value} {F : BSet} (h : R w I ρ x v F) (hl : leaf x = true) : ∀ c, ¬ F c := by
  cases h with
  | own | obj | agg | tup => simp [leaf] at hl
  | lit _ hF | nils hF | dead hF | ref _ _ hF | imm0 hF | imm hF | iptr hF | clo hF => exact hF

/-- A slot's value is forgotten. -/
theorem SR.drop {w : World} {I : BSet} {T : Array Value} {Fs : Nat → BSet} (h : SR w I T g Fs) {d : Nat} {x : AV} (hd : g d = some x) (hl : leaf x = true) : SR w I T (del g d) Fs := by
  refine ⟨fun t y hy => ?_, fun t ht c hc => ?_, h.dis, h.imm, h.lt, fun t t' z p n m new z' n' m' new' h1 h2 => ?_⟩
  · have hy' : g t = some y := by
      unfold del at hy
      split at hy
      · cases hy
      · exact hy
    obtain ⟨v, hv, hR⟩ := h.rel t y hy'
    exact ⟨v, hv, hR.frame (fun _ _ => rfl) (fun _ h => h) (fun _ _ hr => ⟨hr.1, hr.2.del hd hl⟩) (fun _ _ _ _ _ _ _ => rfl) fun _ _ => rfl⟩
  · unfold del at ht
    split at ht
    · rename_i e
      subst e
      obtain ⟨v, hv, hR⟩ := h.rel t x hd
      exact (hR.isTree (by rintro z p n m new rfl; simp [leaf] at hl)).leafF hl c hc
    · exact h.non t ht c hc
  · have key : ∀ {t : Nat} {y : AV}, del g d t = some y → g t = some y := by
      intro t y hy
      unfold del at hy
      split at hy
      · cases hy
      · exact hy
    exact h.pok _ _ _ _ _ _ _ _ _ _ _ (key h1) (key h2)
end
end Go.Own
