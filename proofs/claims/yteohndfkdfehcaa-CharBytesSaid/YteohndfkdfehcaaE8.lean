import Derived.Test.YteohndfkdfehcaaE7
namespace Go.Own
open Go

theorem foldl_set (off : Nat) : ∀ (l : List Value) (s : Nat) (arr : Array Value), off + s + l.length ≤ arr.size →
    ((l.zipIdx s).foldl (fun cs (x : Value × Nat) => cs.setIfInBounds (off + x.2) x.1) arr).toList = arr.toList.take (off + s) ++ l ++ arr.toList.drop (off + s + l.length)
  | [], s, arr, h => by simp
  | v :: l, s, arr, h => by
    simp only [List.length_cons] at h
    rw [List.zipIdx_cons, List.foldl_cons, foldl_set off l (s + 1) _ (by simp; omega)]
    simp only [Array.toList_setIfInBounds, List.length_cons]
    have h1 : (arr.toList.set (off + s) v).take (off + (s + 1)) = arr.toList.take (off + s) ++ [v] := by
      rw [show off + (s + 1) = off + s + 1 by omega, List.take_succ_eq_append_getElem (by simp; omega)]
      rw [List.take_set_of_le (Nat.le_refl _)]
      simp
    have h2 : (arr.toList.set (off + s) v).drop (off + (s + 1) + l.length) = arr.toList.drop (off + s + (l.length + 1)) := by
      rw [List.drop_set_of_lt (by omega)]
      congr 1; omega
    rw [h1, h2]
    simp

theorem fill_step {place : Nat → Option (Nat × Nat)} {i off size : Nat} (hp : place i = some (off, size)) {arr : Array Value} {v : Value} (h1 : v.cells.size = size) (h2 : off + v.cells.size ≤ arr.size) (rest : List (Nat × Value)) :
    ∃ arr' : Array Value, Instr.fill place arr ((i, v) :: rest) = Instr.fill place arr' rest ∧ arr'.toList = arr.toList.take off ++ v.cells.toList ++ arr.toList.drop (off + v.cells.size) := by
  refine ⟨_, by simp only [Instr.fill, hp]; rw [if_neg (by simp; omega)], ?_⟩
  have := foldl_set off v.cells.toList 0 arr (by simpa using h2)
  rw [← Array.foldl_toList, Array.toList_zipIdx]
  simpa using this

/-- A slice's literal with all its elements, in order. -/
theorem fill_all (z : Nat) : ∀ (vs : List Value) (k : Nat) (arr : Array Value) (done rest : List Value), (∀ v ∈ vs, v.cells.size = z) → arr.toList = done ++ rest → done.length = k * z → rest.length = vs.length * z →
    ∃ arr' : Array Value, Instr.fill (fun i => some (i * z, z)) arr (vs.mapIdx fun i v => (k + i, v)) = some arr' ∧ arr'.toList = done ++ vs.flatMap fun v => v.cells.toList
  | [], k, arr, done, rest, _, h1, h2, h3 => by
    have : rest = [] := List.eq_nil_of_length_eq_zero (by simpa using h3)
    subst this
    exact ⟨arr, rfl, by simpa using h1⟩
  | v :: vs, k, arr, done, rest, hz, h1, h2, h3 => by
    have hv := hz v (by simp)
    have hlen : arr.size = done.length + rest.length := by rw [← Array.length_toList, h1, List.length_append]
    simp only [List.length_cons, Nat.add_mul, Nat.one_mul] at h3
    rw [List.mapIdx_cons]
    obtain ⟨arr1, e1, e2⟩ := fill_step (place := fun i => some (i * z, z)) (i := k + 0) (off := k * z) (size := z) (by simp) (arr := arr) (v := v) hv (by omega) ((vs.mapIdx fun i v => (k + (i + 1), v)))
    have e2' : arr1.toList = (done ++ v.cells.toList) ++ rest.drop z := by
      rw [e2, h1, ← h2, List.take_left, hv, List.drop_append]
      simp
    obtain ⟨arr', e3, e4⟩ := fill_all z vs (k + 1) arr1 (done ++ v.cells.toList) (rest.drop z) (fun u hu => hz u (by simp [hu])) e2' (by simp [h2, hv, Nat.add_mul]) (by simp; omega)
    refine ⟨arr', ?_, by rw [e4]; simp⟩
    rw [e1, ← e3]
    congr 1
    congr 1
    funext i u
    congr 1; omega

theorem allOne {vs : Array Value} (h : vs.all Value.oneCell' = true) : ∀ (k : Nat) (u : Value), vs[k]? = some u → u.oneCell' = true :=
  fun _ u hu => Array.all_eq_true_iff_forall_mem.1 h u (Array.mem_of_getElem? hu)

theorem bind_zero {P : Program} {e : TypeId} {z : Value} (h : (P.info? e).bind (·.zero) = some z) (w : World) : (zeroValue e).run P w = .ok z w := by
  cases hi : P.info? e with
  | none => simp [hi] at h
  | some i => simp [hi] at h; simp [zeroValue, typeInfo, hi, h]

theorem getElem?_replicate_flatten {α : Type} (l : List α) : ∀ (n k : Nat), k < n * l.length → (List.replicate n l).flatten[k]? = l[k % l.length]?
  | 0, k, h => by simp at h
  | n + 1, k, h => by
    rw [List.replicate_succ, List.flatten_cons]
    by_cases hk : k < l.length
    · rw [List.getElem?_append_left hk, Nat.mod_eq_of_lt hk]
    · rw [List.getElem?_append_right (by omega), getElem?_replicate_flatten l n (k - l.length) (by rw [Nat.add_mul] at h; omega)]
      rw [← Nat.mod_eq_sub_mod (by omega)]

section
variable {P : Program} {w : World} {I : BSet} {T : Array Value} {g : Gst} {Fs : Nat → BSet}

theorem boxAll_len {ys cs : List AV} {z : Nat} (hz : ∀ y ∈ ys, ∃ c, boxCells y = some c ∧ c.length = z) (hc : boxAll ys = some cs) : cs.length = ys.length * z := by
  induction ys generalizing cs with
  | nil => simp [boxAll] at hc; subst hc; simp
  | cons y ys ih =>
    obtain ⟨c, h1, h2⟩ := hz y (by simp)
    simp only [boxAll, h1] at hc
    cases hb : boxAll ys with
    | none => simp [hb] at hc
    | some b =>
      simp only [hb, Option.some.injEq] at hc
      subst hc
      rw [List.length_append, ih (fun y hy => hz y (by simp [hy])) hb, h2, List.length_cons, Nat.add_mul]
      omega

theorem PS2.sound (h : SR w I T g Fs) {a : Act} (ha : a.tmps = T) {o : Oper} {xv : AV} (hp : PS2 P g o.op o.type xv) :
    ∃ v ob, (execOp a.eval o).run P w = .ok (.value v) (w.alloc ob) ∧ R (w.alloc ob) I (RG (w.alloc ob) T g) xv v (fun c => c = w.heap.size) := by
  obtain ⟨dst, op, ty, pos, after, guard⟩ := o
  simp only at hp
  have old : ∀ (ob : Obj) {x : AV} {v : Value}, R w I (RG w T g) x v E0 → R (w.alloc ob) I (RG (w.alloc ob) T g) x v E0 := fun ob _ _ hR => R.alloc h ob hR fun _ h => h.elim
  cases hp with
  | @box e _ x y cs hx hc =>
    have hy := opd_sound h hx ha
    obtain ⟨h1, h1c, h2⟩ := hy.boxCells (fun _ h => h) (fun _ _ hx hr => hr.oneCell hx) hc
    refine ⟨_, .cells (a.eval x).cells e, by simp [execOp, Instr.box, newVar, newRow], R.objE0 (e := e) (alloc_new w _) h1 h1c fun k x u hx hu => old _ (h2 k x u hx hu)⟩
  | @alloc e _ z hz hone =>
    refine ⟨_, .cells z.cells e, by simp [execOp, Instr.alloc, newVar, newRow, bind_zero hz], R.objE0 (e := e) (alloc_new w _) (by simp) (allOne hone) fun k x u hx hu => old _ (ofCells_sound k x u hx (by simpa using hu))⟩
  | @buildSlice t e _ z parts xs ys cs ht hp hx hz hc hb hnn hzero =>
    obtain ⟨hu, he, hsz⟩ := slT_spec (w := w) ht
    obtain ⟨hl, hr⟩ := opds_sound h ha hx
    have hcl := boxAll_len hz hc
    have hvz : ∀ v ∈ xs.map a.eval, v.cells.size = z := by
      intro v hv
      obtain ⟨x, hxm, rfl⟩ := List.mem_map.1 hv
      obtain ⟨k, hk, rfl⟩ := List.mem_iff_getElem.1 hxm
      have hy' : ys[k]? = some (ys[k]'(by omega)) := List.getElem?_eq_getElem (by omega)
      obtain ⟨c, h1, h2⟩ := hz _ (List.getElem_mem (l := ys) (n := k) (by omega))
      obtain ⟨h3, _, _⟩ := (hr k _ _ hy' (List.getElem?_eq_getElem hk)).boxCells (fun _ h => h) (fun _ _ hx hr => hr.oneCell hx) h1
      rw [← h3, h2]
    obtain ⟨zv, hzv⟩ : ∃ zv : Array Value, (xs.length * z = 0 ∧ zv = #[]) ∨ (xs.length * z ≠ 0 ∧ ∃ v, zv = v.cells ∧ (zeroValue e).run P w = .ok v w) := by
      by_cases h0 : xs.length * z = 0
      · exact ⟨#[], .inl ⟨h0, rfl⟩⟩
      · rcases hzero with h1 | ⟨v, h1, h2⟩
        · exact absurd h1 h0
        · exact ⟨v.cells, .inr ⟨h0, v, rfl, bind_zero h1 w⟩⟩
    obtain ⟨arr, e1, e2⟩ := fill_all z (xs.map a.eval) 0 ((Array.range (xs.length * z)).map (zv[· % zv.size]!)) [] ((Array.range (xs.length * z)).map (zv[· % zv.size]!)).toList hvz (by simp) (by simp) (by simp)
    have hparts : (parts.map fun (p : Nat × Operand) => (p.1, a.eval p.2)).toList = (xs.map a.eval).mapIdx fun i v => (0 + i, v) := by
      rw [Array.toList_map, hp]
      apply List.ext_getElem?
      intro k
      simp only [List.getElem?_map, List.getElem?_mapIdx]
      cases xs[k]? <;> simp
    obtain ⟨hcs, hc1, hcr⟩ := boxAll_sound (ρ := RG w T g) (fun _ _ hx hr => hr.oneCell hx) (ys := ys) (vs := xs.map a.eval) (by simp [hl]) (fun k y v hy hv => by
      rw [List.getElem?_map] at hv
      cases hxk : xs[k]? with
      | none => simp [hxk] at hv
      | some x => simp [hxk] at hv; subst hv; exact hr k y x hy hxk) hc
    have hal : arr.toList = (xs.map a.eval).flatMap fun v => v.cells.toList := by simpa using e2
    have hsize : arr.size = xs.length * z := by rw [← Array.length_toList, hal, ← hcs, hcl, hl]
    have hrun : (execOp a.eval { dst := dst, op := .buildSlice t xs.length parts, type := ty, pos := pos, after := after, guard := guard }).run P w = .ok (.value (.slice (some ⟨w.heap.size, 0, none⟩) xs.length xs.length)) (w.alloc (.cells arr e)) := by
      have hle : ¬ (16777216 < xs.length * z) := by omega
      rcases hzv with ⟨h0, rfl⟩ | ⟨h0, v, rfl, hzr⟩
      · simp only [h0] at e1
        rw [← hparts] at e1
        simp at e1
        simp [execOp, Instr.buildSlice, run_underlying hu, hsz, h0, e1, newRow]
      · rw [← hparts] at e1
        simp at e1
        simp [execOp, Instr.buildSlice, run_underlying hu, hsz, h0, hle, hzr, e1, newRow]
    refine ⟨_, _, hrun, R.ownE0 (e := e) (arr := arr) (alloc_new w _) (Nat.le_refl _) ?_ hsize (by rw [hcl, hl]) (fun k u hu => hc1 k u (by rw [← hal]; simpa using hu)) fun k x u hx hu => old _ (hcr k x u hx ?_)⟩
    · unfold maxLen; omega
    · rw [← hal]; simpa using hu
  | @makeSlice t e _ x y z n b k1 k2 zv ht hx hy hzero hone hzs hb hn hn2 =>
    obtain ⟨hu, he, hsz⟩ := slT_spec (w := w) ht
    have h1 := (opd_sound h hx ha).inv_lit.1
    have h2 := (opd_sound h hy ha).inv_lit.1
    cases hi : P.info? e with
    | none => simp [hi] at hb
    | some i =>
      simp [hi] at hb hzero
      have hiz : i.size = z := by
        unfold slT at ht
        rw [hu] at ht
        simp [hi] at ht
        exact ht
      have hbytes : (i.bytes : Int) * (n : Int) ≤ 281474976710656 := by
        have : ((b * n : Nat) : Int) ≤ 281474976710656 := by have := Nat.mul_comm n b; omega
        rw [hb, ← Int.natCast_mul]; exact this
      have hr := run_make (P := P) w t e i zv hu hi hzero k1 k2 n n (by omega) (Int.le_refl _) hbytes (by omega)
      simp only [Int.toNat_natCast] at hr
      refine ⟨_, .cells (madeCells zv.cells (n * i.size)) e, by simp [execOp, h1, h2, hr], R.ownE0 (e := e) (alloc_new w _) (Nat.le_refl _) (by unfold maxLen; omega) (by rw [size_madeCells, hiz]) (by simp [hzs]) (fun k u hu => ?_) fun k x u hx hu => ?_⟩
      · rw [madeCells, Array.getElem?_map, Array.getElem?_range] at hu
        split at hu
        · rename_i hk
          have h0 : 0 < zv.cells.size := by
            rcases Nat.eq_zero_or_pos zv.cells.size with h | h
            · rw [hiz, ← hzs, h] at hk; simp at hk
            · exact h
          have hm : k % zv.cells.size < zv.cells.size := Nat.mod_lt _ h0
          simp only [Option.map_some, Option.some.injEq] at hu
          rw [← hu, show zv.cells[k % zv.cells.size]! = zv.cells[k % zv.cells.size] by simp [hm]]
          exact allOne hone _ _ (Array.getElem?_eq_getElem hm)
        · cases hu
      have hk : k < n * zv.cells.size := by
        have := (List.getElem?_eq_some_iff.1 hx).1
        simpa [Nat.mul_comm] using this
      have h0 : 0 < zv.cells.size := by
        rcases Nat.eq_zero_or_pos zv.cells.size with h | h
        · rw [h] at hk; simp at hk
        · exact h
      have hm : k % zv.cells.size < zv.cells.size := Nat.mod_lt _ h0
      rw [getElem?_replicate_flatten _ n k (by simpa using hk)] at hx
      simp only [List.length_map, Array.length_toList, List.getElem?_map, Array.getElem?_toList, Array.getElem?_eq_getElem hm, Option.map_some, Option.some.injEq] at hx
      rw [madeCells, Array.getElem?_map, Array.getElem?_range, if_pos (by rw [hiz, ← hzs]; exact hk)] at hu
      simp only [Option.map_some, Option.some.injEq] at hu
      have hu' : zv.cells[k % zv.cells.size]! = zv.cells[k % zv.cells.size] := by simp [hm]
      rw [hu'] at hu
      subst hx hu
      exact old _ (ofCell_sound _)

/-- Cells that stand for values, one by one. -/
def Cells (w : World) (I : BSet) (ρ : AV → Value → Prop) (cs : List AV) (vs : List Value) : Prop :=
  cs.length = vs.length ∧ (∀ (k : Nat) (u : Value), vs[k]? = some u → u.oneCell' = true) ∧ ∀ (k : Nat) (x : AV) (u : Value), cs[k]? = some x → vs[k]? = some u → R w I ρ x u E0

theorem Cells.append {ρ : AV → Value → Prop} {a b : List AV} {u v : List Value} (h : Cells w I ρ a u) (h' : Cells w I ρ b v) : Cells w I ρ (a ++ b) (u ++ v) := by
  refine ⟨by simp [h.1, h'.1], fun k y hy => ?_, fun k x y hx hy => ?_⟩
  · by_cases hk : k < u.length
    · rw [List.getElem?_append_left hk] at hy; exact h.2.1 k y hy
    · rw [List.getElem?_append_right (by omega)] at hy; exact h'.2.1 _ y hy
  · by_cases hk : k < a.length
    · rw [List.getElem?_append_left hk] at hx
      rw [List.getElem?_append_left (by rw [← h.1]; exact hk)] at hy
      exact h.2.2 k x y hx hy
    · rw [List.getElem?_append_right (by omega)] at hx
      rw [List.getElem?_append_right (by rw [← h.1]; omega)] at hy
      exact h'.2.2 _ x y hx (by rw [h.1]; exact hy)

theorem Cells.take {ρ : AV → Value → Prop} {a : List AV} {u : List Value} (h : Cells w I ρ a u) (n : Nat) : Cells w I ρ (a.take n) (u.take n) := by
  refine ⟨by simp [h.1], fun k y hy => ?_, fun k x y hx hy => ?_⟩
  · rw [List.getElem?_take] at hy
    split at hy
    · exact h.2.1 k y hy
    · cases hy
  · rw [List.getElem?_take] at hx hy
    split at hx
    · rename_i hk; rw [if_pos hk] at hy; exact h.2.2 k x y hx hy
    · cases hx

theorem Cells.drop {ρ : AV → Value → Prop} {a : List AV} {u : List Value} (h : Cells w I ρ a u) (n : Nat) : Cells w I ρ (a.drop n) (u.drop n) := by
  refine ⟨by simp [h.1], fun k y hy => ?_, fun k x y hx hy => ?_⟩
  · rw [List.getElem?_drop] at hy; exact h.2.1 _ y hy
  · rw [List.getElem?_drop] at hx hy
    exact h.2.2 _ x y hx hy

theorem fillAV_sound {ρ : AV → Value → Prop} {place : Nat → Option (Nat × Nat)} : ∀ (ps : List (Nat × List AV)) (vps : List (Nat × Value)) {cells cs : List AV} {arr : Array Value}, Cells w I ρ cells arr.toList →
    ps.map (·.1) = vps.map (·.1) → (∀ (k : Nat) (p : Nat × List AV) (q : Nat × Value), ps[k]? = some p → vps[k]? = some q → Cells w I ρ p.2 q.2.cells.toList) → fillAV place cells ps = some cs →
    ∃ arr' : Array Value, Instr.fill place arr vps = some arr' ∧ Cells w I ρ cs arr'.toList
  | [], vps, cells, cs, arr, hc, hk, _, hf => by
    cases vps with
    | nil => simp only [fillAV, Option.some.injEq] at hf; subst hf; exact ⟨arr, rfl, hc⟩
    | cons => simp at hk
  | (i, c) :: ps, vps, cells, cs, arr, hc, hk, hr, hf => by
    cases vps with
    | nil => simp at hk
    | cons q vps =>
      obtain ⟨j, v⟩ := q
      simp only [List.map_cons, List.cons.injEq] at hk
      obtain ⟨rfl, hk⟩ := hk
      have h0 := hr 0 _ _ rfl rfl
      simp only [fillAV] at hf
      cases hp : place i with
      | none => simp [hp] at hf
      | some os =>
        obtain ⟨off, size⟩ := os
        simp only [hp] at hf
        split at hf
        · rename_i hcond
          have hlen : v.cells.size = c.length := by rw [← Array.length_toList]; exact h0.1.symm
          have hlen2 : arr.size = cells.length := by rw [← Array.length_toList]; exact hc.1.symm
          obtain ⟨arr1, e1, e2⟩ := fill_step (arr := arr) (v := v) hp (by omega) (by omega) vps
          have hc1 : Cells w I ρ (cells.take off ++ c ++ cells.drop (off + c.length)) arr1.toList := by
            rw [e2, hlen]
            exact ((hc.take off).append h0).append (hc.drop _)
          obtain ⟨arr', e3, e4⟩ := fillAV_sound ps vps hc1 hk (fun k p q hp hq => hr (k + 1) p q hp hq) hf
          exact ⟨arr', by rw [e1, e3], e4⟩
        · cases hf

theorem partsAV_sound (h : SR w I T g Fs) {a : Act} (ha : a.tmps = T) : ∀ {l : List (Nat × Operand)} {ps : List (Nat × List AV)}, partsAV g l = some ps →
    ps.map (·.1) = (l.map fun p => (p.1, a.eval p.2)).map (·.1) ∧ ∀ (k : Nat) (p : Nat × List AV) (q : Nat × Value), ps[k]? = some p → (l.map fun p => (p.1, a.eval p.2))[k]? = some q → Cells w I (RG w T g) p.2 q.2.cells.toList
  | [], ps, hp => by simp only [partsAV, Option.some.injEq] at hp; subst hp; simp
  | (i, x) :: l, ps, hp => by
    simp only [partsAV] at hp
    cases hx : opd g x with
    | none => simp [hx] at hp
    | some y =>
      cases hl : partsAV g l with
      | none => simp [hx, hl] at hp
      | some ps' =>
        simp only [hx, hl, Option.map_eq_some_iff] at hp
        obtain ⟨c, hc, rfl⟩ := hp
        obtain ⟨h1, h2⟩ := partsAV_sound h ha hl
        refine ⟨by simp [h1], fun k p q hp hq => ?_⟩
        cases k with
        | zero =>
          simp at hp hq
          subst hp hq
          obtain ⟨h3, h31, h4⟩ := (opd_sound h hx ha).boxCells (fun _ h => h) (fun _ _ hx hr => hr.oneCell hx) hc
          exact ⟨by simpa using h3, fun k u hu => h31 k u (by simpa using hu), fun k x u hx hu => h4 k x u hx (by simpa using hu)⟩
        | succ k => simp at hp hq; exact h2 k p q hp (by simpa using hq)

theorem structT_spec {t : TypeId} {pl : List (Nat × Nat)} (h : structT P t pl = true) : ∃ fs, P.underlying t = some (.struct fs) ∧ fs.toList.mapM (fun f => (P.info? f.type).map fun i => (f.offset, i.size)) = some pl := by
  unfold structT at h
  cases hu : P.underlying t with
  | none => simp [hu] at h
  | some d =>
    cases d <;> simp only [hu, Bool.false_eq_true] at h
    rename_i fs
    refine ⟨fs, rfl, ?_⟩
    replace h := LawfulBEq.eq_of_beq h
    generalize fs.toList = l at h
    induction l generalizing pl with
    | nil => cases pl with
      | nil => rfl
      | cons => simp at h
    | cons f l ih =>
      cases pl with
      | nil => simp at h
      | cons p pl =>
        obtain ⟨o, s⟩ := p
        simp only [List.map_cons, List.cons.injEq, Prod.mk.injEq] at h
        obtain ⟨⟨rfl, h1⟩, h2⟩ := h
        have := ih h2
        rw [List.mapM_cons, this]
        cases hi : P.info? f.type with
        | none => simp [hi] at h1
        | some i => simp [hi] at h1; subst h1; rfl

theorem PS3.sound (h : SR w I T g Fs) {a : Act} (ha : a.tmps = T) {o : Oper} {xv : AV} (hp : PS3 P g o.op o.type xv) :
    ∃ v, (execOp a.eval o).run P w = .ok (.value v) w ∧ R w I (RG w T g) xv v E0 := by
  obtain ⟨dst, op, ty, pos, after, guard⟩ := o
  simp only at hp
  cases hp with
  | @build t _ parts pl zv ps cs ht hz hone hp hc =>
    obtain ⟨fs, hu, hpl⟩ := structT_spec ht
    obtain ⟨h1, h2⟩ := partsAV_sound h ha hp
    obtain ⟨arr', e1, e2⟩ := fillAV_sound (w := w) (I := I) (ρ := RG w T g) (place := fun i => pl[i]?) ps _ (arr := zv.cells) ⟨by simp, fun k u hu => allOne hone k u (by simpa using hu), fun k x u hx hu => ofCells_sound k x u hx hu⟩ h1 h2 hc
    refine ⟨.agg arr', ?_, .agg (Fs := fun _ => E0) (by simpa using e2.1) (fun k u hu => e2.2.1 k u (by simpa using hu)) (fun k x u hx hu => e2.2.2 k x u hx (by simpa using hu)) (fun _ _ _ _ _ h => h.elim) (fun c => ⟨fun h => h.elim, fun ⟨_, _, h⟩ => h⟩)⟩
    have hrp := run_places (P := P) w fs.toList pl hpl
    have hb : P.built t ((parts.map fun (p : Nat × Operand) => (p.1, a.eval p.2))).toList = some arr' := by
      rw [Array.toList_map]
      cases hi : P.info? t with
      | none => simp [hi] at hz
      | some it =>
        simp [hi] at hz
        simp only [Program.built, hu, hpl, hi, hz]
        simpa using e1
    have := run_build (P := P) w t _ _ hb
    simp only [execOp, Sem.run_bind]
    have hm : (parts.map fun (x : Nat × Operand) => match x with | (i, x) => (i, a.eval x)) = parts.map fun (p : Nat × Operand) => (p.1, a.eval p.2) := rfl
    rw [hm, this]
    rfl
  | @makeFunc fn first caps _ l1 l2 h1 h2 =>
    obtain ⟨a1, a2⟩ := opds_sound h ha h1
    obtain ⟨b1, b2⟩ := opds_sound h ha h2
    refine ⟨.func fn (first.map a.eval) (caps.map a.eval), by simp [execOp, Instr.makeFunc], .clo (fun _ h => h) (by simpa using a1) (by simpa using b1) (fun k x u hx hu => ?_) (fun k x u hx hu => ?_)⟩
    · rw [Array.getElem?_map] at hu
      cases hk : first[k]? with
      | none => simp [hk] at hu
      | some y => simp [hk] at hu; subst hu; exact a2 k x y hx (by simpa using hk)
    · rw [Array.getElem?_map] at hu
      cases hk : caps[k]? with
      | none => simp [hk] at hu
      | some y => simp [hk] at hu; subst hu; exact b2 k x y hx (by simpa using hk)
end
end Go.Own
