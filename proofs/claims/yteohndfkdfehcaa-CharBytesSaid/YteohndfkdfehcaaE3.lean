import Derived.Test.YteohndfkdfehcaaE2
namespace Go.Own
open Go

theorem walk_append (w : World) : ∀ (p : List Nat) (v : Value) (k : Nat), walk w v (p ++ [k]) = (walk w v p).bind fun u => child w u k
  | [], v, k => by simp [walk]; cases child w v k <;> rfl
  | j :: p, v, k => by
    simp only [List.cons_append, walk]
    cases child w v j with
    | none => rfl
    | some u => exact walk_append w p u k

theorem at_append : ∀ (p : List Nat) (x : AV) (k : Nat), x.at (p ++ [k]) = (x.at p).bind fun y => y.kids[k]?
  | [], x, k => by simp [AV.at]; cases x.kids[k]? <;> rfl
  | j :: p, x, k => by
    simp only [List.cons_append, AV.at]
    cases x.kids[j]? with
    | none => rfl
    | some u => exact at_append p u k

theorem atP_push (g : Gst) (p : Place) (k : Nat) : atP g (p.push k) = (atP g p).bind fun y => y.kids[k]? := by
  unfold atP Place.push
  cases g p.root with
  | none => rfl
  | some x => simp [at_append]

theorem valAt_push (w : World) (T : Array Value) (p : Place) (k : Nat) : valAt w T (p.push k) = (valAt w T p).bind fun u => child w u k := by
  unfold valAt Place.push
  cases T[p.root]? with
  | none => rfl
  | some x => simp [walk_append]

/-- A part, named by its place. -/
def refIn : Nat → Place → AV → AV
  | _, p, .own z n _ => .brw z p n
  | _, p, .obj (_ :: _) => .ptr p 0
  | _, _, .obj [] => .dead
  | _, _, .pend .. => .dead
  | d + 1, p, .agg cs => .agg (cs.mapIdx fun i x => refIn d (p.push i) x)
  | d + 1, p, .tup cs => .tup (cs.mapIdx fun i x => refIn d (p.push i) x)
  | 0, _, .agg _ => .dead
  | 0, _, .tup _ => .dead
  | _, _, x => x

/-- A slot, named. -/
def refTop (t : Nat) : AV → AV
  | .pend z _ n m _ => .brw z ⟨t, []⟩ (n + m)
  | x => refIn 2 ⟨t, []⟩ x

def ofCell : Value → AV
  | .slice none 0 0 => .nils
  | .agg _ => .dead
  | .tuple _ => .dead
  | v => .lit v

def ofConst : Value → AV
  | .agg vs => if vs.all Value.oneCell' then .agg (vs.toList.map ofCell) else .dead
  | .tuple _ => .dead
  | v => ofCell v

def opd (g : Gst) : Operand → Option AV
  | .tmp t => (g t).map (refTop t)
  | .const v => some (ofConst v)
  | .func f => some (.clo (.func f) [] [])
  | .global _ => none

abbrev E0 : BSet := fun _ => False

section
variable {w : World} {I : BSet} {T : Array Value} {g : Gst} {Fs : Nat → BSet}

theorem R.empty {ρ : AV → Value → Prop} {x : AV} {v : Value} {F : BSet} (h : R w I ρ x v F) (hF : ∀ c, ¬ F c) : R w I ρ x v E0 := h.congrF fun c => ⟨fun hc => hF c hc, fun hc => hc.elim⟩

theorem refIn_sound : ∀ (d : Nat) {p : Place} {x : AV} {v : Value} {F : BSet}, atP g p = some x → valAt w T p = some v → R w I (RG w T g) x v F → R w I (RG w T g) (refIn d p x) v E0 := by
  intro d
  induction d with
  | zero =>
    intro p x v F hp hv hR
    cases hR with
    | lit hl hF => exact .lit hl fun _ h => h
    | nils hF => exact .nils fun _ h => h
    | dead hF => exact .dead fun _ h => h
    | ref hx hr hF => cases x <;> simp [AV.isRef] at hx <;> exact .ref rfl hr fun _ h => h
    | imm0 hF => exact .imm0 fun _ h => h
    | imm hF hcap hI hs hl h1 hc hr => exact .imm (fun _ h => h) hcap hI hs hl h1 hc hr
    | iptr hF hI hs h1 hc hr => exact .iptr (fun _ h => h) hI hs h1 hc hr
    | own ho hl h1 hr hd hb hF =>
      have hown := R.own (I := I) (ρ := RG w T g) ho hl h1 hr hd hb hF
      obtain ⟨a, cap, rfl, hn, _⟩ := hown.own_slice
      exact .ref rfl ⟨⟨a, _, cap, hv, rfl, Nat.le_refl _⟩, .inl ⟨_, _, hp, Nat.le_refl _⟩⟩ fun _ h => h
    | @obj cs b e arr Fs' _ ho hl h1 hr hd hb hF =>
      cases cs with
      | nil => exact .dead fun _ h => h
      | cons c cs => exact .ref rfl ⟨⟨_, _, hv, rfl, rfl⟩, ⟨_, hp, 0, 0, _, .inr rfl, by simp⟩⟩ fun _ h => h
    | agg => exact .dead fun _ h => h
    | tup => exact .dead fun _ h => h
    | clo hF h1 h2 hr1 hr2 => exact .clo (fun _ h => h) h1 h2 hr1 hr2
  | succ d ih =>
    intro p x v F hp hv hR
    cases hR with
    | lit hl hF => exact .lit hl fun _ h => h
    | nils hF => exact .nils fun _ h => h
    | dead hF => exact .dead fun _ h => h
    | ref hx hr hF => cases x <;> simp [AV.isRef] at hx <;> exact .ref rfl hr fun _ h => h
    | imm0 hF => exact .imm0 fun _ h => h
    | imm hF hcap hI hs hl h1 hc hr => exact .imm (fun _ h => h) hcap hI hs hl h1 hc hr
    | iptr hF hI hs h1 hc hr => exact .iptr (fun _ h => h) hI hs h1 hc hr
    | own ho hl h1 hr hd hb hF =>
      have hown := R.own (I := I) (ρ := RG w T g) ho hl h1 hr hd hb hF
      obtain ⟨a, cap, rfl, hn, _⟩ := hown.own_slice
      exact .ref rfl ⟨⟨a, _, cap, hv, rfl, Nat.le_refl _⟩, .inl ⟨_, _, hp, Nat.le_refl _⟩⟩ fun _ h => h
    | @obj cs b e arr Fs' _ ho hl h1 hr hd hb hF =>
      cases cs with
      | nil => exact .dead fun _ h => h
      | cons c cs => exact .ref rfl ⟨⟨_, _, hv, rfl, rfl⟩, ⟨_, hp, 0, 0, _, .inr rfl, by simp⟩⟩ fun _ h => h
    | @agg cs vs Fs' _ hl h1 hr hd hF =>
      refine .agg (Fs := fun _ => E0) (by simpa using hl) h1 ?_ (fun _ _ _ _ _ h => h.elim) (fun c => ⟨fun h => h.elim, fun ⟨_, _, h⟩ => h⟩)
      intro k y u hy hu
      rw [List.getElem?_mapIdx] at hy
      cases hk : cs[k]? with
      | none => rw [hk] at hy; cases hy
      | some z =>
        rw [hk] at hy
        cases hy
        exact ih (by rw [atP_push, hp]; exact hk) (by rw [valAt_push, hv]; exact hu) (hr k z u hk hu)
    | @tup cs vs Fs' _ hl hr hd hF =>
      refine .tup (Fs := fun _ => E0) (by simpa using hl) ?_ (fun _ _ _ _ _ h => h.elim) (fun c => ⟨fun h => h.elim, fun ⟨_, _, h⟩ => h⟩)
      intro k y u hy hu
      rw [List.getElem?_mapIdx] at hy
      cases hk : cs[k]? with
      | none => rw [hk] at hy; cases hy
      | some z =>
        rw [hk] at hy
        cases hy
        exact ih (by rw [atP_push, hp]; exact hk) (by rw [valAt_push, hv]; exact hu) (hr k z u hk hu)
    | clo hF h1 h2 hr1 hr2 => exact .clo (fun _ h => h) h1 h2 hr1 hr2

theorem ofCell_sound {ρ : AV → Value → Prop} (v : Value) : R w I ρ (ofCell v) v E0 := by
  unfold ofCell
  split
  · exact .nils fun _ h => h
  · exact .dead fun _ h => h
  · exact .dead fun _ h => h
  · rename_i h1 h2 h3
    refine .lit ?_ fun _ h => h
    cases v <;> first | rfl | (exact absurd rfl (h2 _)) | (exact absurd rfl (h3 _))

theorem ofConst_sound {ρ : AV → Value → Prop} (v : Value) : R w I ρ (ofConst v) v E0 := by
  unfold ofConst
  split
  · rename_i vs
    split
    · rename_i hall
      refine .agg (Fs := fun _ => E0) (by simp) (fun k u hu => ?_) ?_ (fun _ _ _ _ _ h => h.elim) (fun c => ⟨fun h => h.elim, fun ⟨_, _, h⟩ => h⟩)
      · exact Array.all_eq_true_iff_forall_mem.1 hall u (Array.mem_of_getElem? hu)
      · intro k x u hx hu
        simp only [List.getElem?_map, Array.getElem?_toList, hu, Option.map_some, Option.some.injEq] at hx
        subst hx
        exact ofCell_sound u
    · exact .dead fun _ h => h
  · exact .dead fun _ h => h
  · exact ofCell_sound v

theorem opd_sound (h : SR w I T g Fs) {x : Operand} {y : AV} (hy : opd g x = some y) {a : Act} (ha : a.tmps = T) : R w I (RG w T g) y (a.eval x) E0 := by
  cases x with
  | tmp t =>
    simp only [opd] at hy
    cases hx : g t with
    | none => rw [hx] at hy; cases hy
    | some z =>
      rw [hx] at hy
      simp only [Option.map_some, Option.some.injEq] at hy
      obtain ⟨v, hv, hR⟩ := h.rel t z hx
      have hev : a.eval (.tmp t) = v := by simp [Act.eval, ha, hv]
      rw [hev]
      have hp : atP g ⟨t, []⟩ = some z := by simp [atP, hx, AV.at]
      have hva : valAt w T ⟨t, []⟩ = some v := by simp [valAt, hv, walk]
      subst hy
      cases hR with
      | tree hR =>
        cases z with
        | pend => exact hR.notPend.elim
        | _ => exact refIn_sound 2 hp hva hR
      | @pend zz n m p new v bv e e2 us news _ hR =>
        simp only [refTop]
        have : ∃ a cap, v = .slice a (n + m) cap := by
          obtain ⟨_, h2⟩ := hR.hov
          rcases h2 with ⟨h2, h3⟩ | ⟨b, cap, cur, h2, _⟩
          · exact ⟨none, 0, by rw [h2]; congr 1; omega⟩
          · exact ⟨_, cap, h2⟩
        obtain ⟨a', cap, rfl⟩ := this
        exact .ref rfl ⟨⟨a', _, cap, hva, rfl, Nat.le_refl _⟩, .inr ⟨rfl, p, n, m, new, hx, rfl⟩⟩ fun _ h => h
  | const v => simp only [opd, Option.some.injEq] at hy; subst hy; exact ofConst_sound v
  | global n => simp [opd] at hy
  | func f =>
    simp only [opd, Option.some.injEq] at hy
    subst hy
    exact .clo (fun _ h => h) rfl rfl (by simp) (by simp)
end
end Go.Own
