import Derived.Test.YteohndfkdfehcaaE5
namespace Go.Own
open Go

section
variable {P : Program} {w : World} {I : BSet} {T : Array Value} {g : Gst} {Fs : Nat → BSet}

theorem Bnd.sound (h : SR w I T g Fs) {d : Nat} {x : Option Operand} {j : Nat} (hb : Bnd g d x j) {a : Act} (ha : a.tmps = T) : (x.map a.eval = none ∧ j = d) ∨ ∃ k, x.map a.eval = some (.int k (j : Int)) := by
  cases x with
  | none => exact .inl ⟨rfl, hb⟩
  | some o =>
    obtain ⟨k, hk⟩ := hb
    exact .inr ⟨k, by rw [Option.map_some, (opd_sound h hk ha).inv_lit.1]⟩

theorem run_bounds {len cap l h : Nat} {lo hi : Option Value} (hl : (lo = none ∧ l = 0) ∨ ∃ k, lo = some (.int k (l : Int))) (hh : (hi = none ∧ h = len) ∨ ∃ k, hi = some (.int k (h : Int))) (b : Bool) (hlh : l ≤ h) (hc : h ≤ cap) :
    (Instr.sliceBounds b len cap lo hi none).run P w = .ok (l, h, cap) w := by
  rcases hl with ⟨rfl, rfl⟩ | ⟨k, rfl⟩ <;> rcases hh with ⟨rfl, rfl⟩ | ⟨k', rfl⟩ <;> simp [Instr.sliceBounds, Instr.sliceBound, asIntOf, hlh, hc]

theorem litArgs (h : SR w I T g Fs) {a : Act} (ha : a.tmps = T) : ∀ (xs : List Operand) (vs : List Value), xs.map (opd g) = vs.map (fun v => some (.lit v)) → xs.map a.eval = vs
  | [], [], _ => rfl
  | [], _ :: _, h => by simp at h
  | _ :: _, [], h => by simp at h
  | x :: xs, v :: vs, hx => by
    simp only [List.map_cons, List.cons.injEq] at hx
    rw [List.map_cons, (opd_sound h hx.1 ha).inv_lit.1, litArgs h ha xs vs hx.2]

theorem PS1.sound (h : SR w I T g Fs) {a : Act} (ha : a.tmps = T) {o : Oper} {xv : AV} (hp : PS1 P g o.op o.type xv) :
    ∃ v, (execOp a.eval o).run P w = .ok (.value v) w ∧ R w I (RG w T g) xv v E0 := by
  obtain ⟨dst, op, ty, pos, after, guard⟩ := o
  simp only at hp
  have ev : ∀ {x : Operand} {y : AV}, opd g x = some y → R w I (RG w T g) y (a.eval x) E0 := fun hy => opd_sound h hy ha
  have no : ∀ c, ¬ E0 c := fun _ h => h
  cases hp with
  | move hx => exact ⟨_, by simp [execOp], ev hx⟩
  | assign hx => exact ⟨_, by simp [execOp], ev hx⟩
  | @pick c x y _ t r hc hr =>
    have hcv := (ev hc).inv_lit.1
    refine ⟨_, ?_, ev hr⟩
    simp [execOp, hcv, asBool]
    cases t <;> rfl
  | @nilP x _ p k hx =>
    have hr := ev hx
    obtain ⟨⟨u, ad, h1, h2, h3⟩, h4⟩ := hr.inv_ptr
    exact ⟨_, by simp [execOp, h3], h3 ▸ hr⟩
  | @nilI x _ cs hx =>
    have hr := ev hx
    obtain ⟨ad, us, h3, _⟩ := hr.inv_iptr
    exact ⟨_, by simp [execOp, h3], h3 ▸ hr⟩
  | @fieldP x _ s t f off p k hx hf hok =>
    obtain ⟨⟨u, ad, h1, h2, h3⟩, h4⟩ := (ev hx).inv_ptr
    refine ⟨.pointer (some ⟨ad.block, ad.off + k + off, none⟩), by simp [execOp, h3, run_fieldAt hf], .ref rfl ⟨⟨u, ad, h1, h2, by rw [Nat.add_assoc]⟩, hok⟩ no⟩
  | @fieldI x _ s t f off cs hx hf =>
    obtain ⟨ad, us, h3, hI, hs, hone, hc, hr⟩ := (ev hx).inv_iptr
    obtain ⟨b, o, sp⟩ := ad
    simp only at hs
    subst hs
    refine ⟨.pointer (some ⟨b, o + off, none⟩), by simp [execOp, h3, run_fieldAt hf], .iptr (us := fun k => us (off + k)) no hI rfl (fun k x hk => hone _ x (by rwa [List.getElem?_drop] at hk)) (fun k x hk => ?_) fun k x hk => ?_⟩
    · rw [List.getElem?_drop] at hk; simpa [Nat.add_assoc] using hc _ x hk
    · rw [List.getElem?_drop] at hk; exact hr _ x hk
  | @field1 x _ s t f off cs y hx hf ht hy =>
    obtain ⟨vs, h3, hl, hone, hr⟩ := (ev hx).inv_agg no
    obtain ⟨fs, fd, hu, hfd, rfl, rfl, i, hi, h0⟩ := fldT_spec hf
    have hk : fd.offset < cs.length := (List.getElem?_eq_some_iff.1 hy).1
    have hv : vs[fd.offset]? = some vs[fd.offset] := Array.getElem?_eq_getElem (hl ▸ hk)
    refine ⟨_, ?_, hr _ xv _ hy hv⟩
    simp [execOp, h3, Instr.field, run_underlying hu, hfd, asAgg, part, (cellT_spec (w := w) ht).1, hv]
  | @fieldN x _ s t f off k cs hx hf ht hk =>
    obtain ⟨vs, h3, hl, hone, hr⟩ := (ev hx).inv_agg no
    obtain ⟨fs, fd, hu, hfd, rfl, rfl, i, hi, h0⟩ := fldT_spec hf
    refine ⟨.agg (vs.extract fd.offset (fd.offset + k)), ?_, .agg (Fs := fun _ => E0) (by simp [hl]; omega) (fun j u hu' => by
      rw [Array.getElem?_extract] at hu'
      split at hu'
      · exact hone _ u hu'
      · cases hu') (fun j y u hy hu' => ?_) (fun _ _ _ _ _ h => h.elim) (fun c => ⟨fun h => h.elim, fun ⟨_, _, h⟩ => h⟩)⟩
    · simp [execOp, h3, Instr.field, run_underlying hu, hfd, asAgg, part, (aggT_spec (w := w) ht).1, (aggT_spec (w := w) ht).2]
    · rw [List.getElem?_take] at hy
      split at hy
      · rw [List.getElem?_drop] at hy
        rw [Array.getElem?_extract] at hu'
        split at hu'
        · exact hr _ y u hy hu'
        · cases hu'
      · cases hy
  | @idxImm x i _ t e z n cs kd j hx hi ht hj =>
    obtain ⟨hu, he, hz⟩ := slT_spec (w := w) ht
    obtain ⟨aa, cap, h3, _, hl, hm⟩ := (ev hx).inv_imm
    obtain ⟨ad, us, rfl, hI, hs, hone, hc, hr⟩ := hm (.inr (by omega))
    obtain ⟨b, o, sp⟩ := ad
    simp only at hs
    subst hs
    have hiv := (ev hi).inv_lit.1
    refine ⟨.pointer (some ⟨b, o + j * z, none⟩), ?_, .iptr (us := fun k => us (j * z + k)) no hI rfl (fun k x hk => hone _ x (by rwa [List.getElem?_drop] at hk)) (fun k x hk => ?_) fun k x hk => ?_⟩
    · simp [execOp, h3, hiv, Instr.indexAt, run_underlying hu, asIntOf, hj, hz, add_eq]
    · rw [List.getElem?_drop] at hk; simpa [Nat.add_assoc] using hc _ x hk
    · rw [List.getElem?_drop] at hk; exact hr _ x hk
  | @idxBrw x i _ t e z n p kd j hx hi ht hj hok =>
    obtain ⟨hu, he, hz⟩ := slT_spec (w := w) ht
    obtain ⟨⟨aa, N, cap, h1, h2, h3⟩, h4⟩ := (ev hx).inv_brw
    have hiv := (ev hi).inv_lit.1
    obtain ⟨y, hy, zz, nn, cs, hyc, hlt⟩ := hok
    obtain ⟨v, Fy, hv, hRy, _⟩ := h.part hy (by rcases hyc with rfl | rfl <;> simp)
    rw [h1] at hv
    cases hv
    obtain ⟨b, u, had, hcell, _, _⟩ := hRy.node hyc (List.getElem?_eq_getElem hlt)
    cases aa with
    | none => simp [addrOf] at had
    | some ad =>
      simp only [addrOf, Option.some.injEq] at had
      subst had
      refine ⟨.pointer (some ⟨b, j * z, none⟩), ?_, .ref rfl ⟨⟨_, _, h1, rfl, by simp⟩, y, hy, zz, nn, cs, hyc, hlt⟩ no⟩
      simp [execOp, h2, hiv, Instr.indexAt, run_underlying hu, asIntOf, hj, hz, add_eq]
  | @idxSub x i _ t e z lo n p kd j hx hi ht hj hok =>
    obtain ⟨hu, he, hz⟩ := slT_spec (w := w) ht
    obtain ⟨⟨aa, N, cap, a', cap', h1, h2, _, h3, h5⟩, h4⟩ := (ev hx).inv_sub
    obtain ⟨ad, rfl, rfl⟩ := h5 (by omega)
    have hiv := (ev hi).inv_lit.1
    obtain ⟨y, hy, zz, nn, cs, hyc, hlt⟩ := hok
    obtain ⟨v, Fy, hv, hRy, _⟩ := h.part hy (by rcases hyc with rfl | rfl <;> simp)
    rw [h1] at hv
    cases hv
    obtain ⟨b, u, had, hcell, _, _⟩ := hRy.node hyc (List.getElem?_eq_getElem hlt)
    simp only [addrOf, Option.some.injEq] at had
    subst had
    refine ⟨.pointer (some ⟨b, (lo + j) * z, none⟩), ?_, .ref rfl ⟨⟨_, _, h1, rfl, by simp⟩, y, hy, zz, nn, cs, hyc, hlt⟩ no⟩
    simp [execOp, h2, hiv, Instr.indexAt, run_underlying hu, asIntOf, hj, hz, add_eq, Nat.add_mul]
  | @idxArrP x i _ t e n z k p kd j hx hi ht hj hok =>
    obtain ⟨hu, hz⟩ := arrT_spec (w := w) ht
    obtain ⟨⟨u, ad, h1, h2, h3⟩, h4⟩ := (ev hx).inv_ptr
    have hiv := (ev hi).inv_lit.1
    refine ⟨.pointer (some ⟨ad.block, ad.off + k + j * z, none⟩), ?_, .ref rfl ⟨⟨u, ad, h1, h2, by rw [Nat.add_assoc]⟩, hok⟩ no⟩
    simp [execOp, h3, hiv, Instr.indexAt, run_underlying hu, Instr.sureAddr, asIntOf, hj, hz, add_eq]
  | @idxArrI x i _ t e n z cs kd j hx hi ht hj =>
    obtain ⟨hu, hz⟩ := arrT_spec (w := w) ht
    obtain ⟨ad, us, h3, hI, hs, hone, hc, hr⟩ := (ev hx).inv_iptr
    obtain ⟨b, o, sp⟩ := ad
    simp only at hs
    subst hs
    have hiv := (ev hi).inv_lit.1
    refine ⟨.pointer (some ⟨b, o + j * z, none⟩), ?_, .iptr (us := fun k => us (j * z + k)) no hI rfl (fun k x hk => hone _ x (by rwa [List.getElem?_drop] at hk)) (fun k x hk => ?_) fun k x hk => ?_⟩
    · simp [execOp, h3, hiv, Instr.indexAt, run_underlying hu, Instr.sureAddr, asIntOf, hj, hz, add_eq]
    · rw [List.getElem?_drop] at hk; simpa [Nat.add_assoc] using hc _ x hk
    · rw [List.getElem?_drop] at hk; exact hr _ x hk
  | @loadI1 x _ t c cs hx ht =>
    obtain ⟨ad, us, h3, hI, hs, hone, hc, hr⟩ := (ev hx).inv_iptr
    obtain ⟨b, o, sp⟩ := ad
    simp only at hs
    subst hs
    have h0 : w.cell? ⟨b, o, none⟩ = some (us 0) := by simpa using hc 0 xv rfl
    exact ⟨us 0, by simp [execOp, h3, run_loadCell ht h0], hr 0 xv rfl⟩
  | @loadIN x _ t k cs hx ht hk =>
    obtain ⟨ad, us, h3, hI, hs, hone, hc, hr⟩ := (ev hx).inv_iptr
    obtain ⟨b, o, sp⟩ := ad
    simp only at hs
    subst hs
    have hlist : ∀ j v, ((List.range k).map us)[j]? = some v → w.cell? ⟨b, o + j, none⟩ = some v := by
      intro j v hj
      rw [List.getElem?_map] at hj
      by_cases hjk : j < k
      · rw [List.getElem?_range hjk] at hj
        simp only [Option.map_some, Option.some.injEq] at hj
        rw [← hj]
        exact hc j _ (List.getElem?_eq_getElem (by omega))
      · rw [List.getElem?_eq_none (by simp; omega)] at hj; cases hj
    refine ⟨.agg ((List.range k).map us).toArray, by simp [execOp, h3, run_loadAgg ht (by simp) hlist], .agg (Fs := fun _ => E0) (by simp; omega) (fun j u hu' => by
      simp only [List.getElem?_toArray, List.getElem?_map] at hu'
      by_cases hjk : j < k
      · rw [List.getElem?_range hjk] at hu'
        simp only [Option.map_some, Option.some.injEq] at hu'
        rw [← hu']
        exact hone j _ (List.getElem?_eq_getElem (by omega))
      · rw [List.getElem?_eq_none (by simp; omega)] at hu'; cases hu') (fun j y u hy hu' => ?_) (fun _ _ _ _ _ h => h.elim) (fun c => ⟨fun h => h.elim, fun ⟨_, _, h⟩ => h⟩)⟩
    rw [List.getElem?_take] at hy
    split at hy
    · rename_i hjk
      simp [hjk] at hu'
      rw [← hu']
      exact hr j y hy
    · cases hy
  | @load1 x _ t p k y hx ht hy =>
    obtain ⟨⟨u, ad, h1, h2, h3⟩, h4⟩ := (ev hx).inv_ptr
    rw [atP_push] at hy
    cases hn : atP g p with
    | none => rw [hn] at hy; cases hy
    | some nd =>
      rw [hn] at hy
      simp only [Option.bind_some] at hy
      obtain ⟨y', hy', zz, nn, cs, hyc, hlt⟩ := h4
      rw [hn] at hy'
      cases hy'
      obtain ⟨v, Fy, hv, hRy, hFy⟩ := h.part hn (by rcases hyc with rfl | rfl <;> simp)
      rw [h1] at hv
      cases hv
      have hk' : cs[k]? = some y := by rcases hyc with rfl | rfl <;> simpa [AV.kids] using hy
      obtain ⟨b, uu, had, hcell, hch, hone, Fk, hRk⟩ := hRy.node hyc hk'
      rw [had] at h2
      cases h2
      refine ⟨uu, by simp only [execOp, h3]; simp [run_loadCell ht hcell], refIn_sound 0 (by rw [atP_push, hn]; exact hy) (by rw [valAt_push, h1]; exact hch) hRk⟩
  | @loadN x _ t p k m z n y cs hx ht hy hyc hm =>
    obtain ⟨⟨u, ad, h1, h2, h3⟩, h4⟩ := (ev hx).inv_ptr
    obtain ⟨v, Fy, hv, hRy, hFy⟩ := h.part hy (by rcases hyc with rfl | rfl <;> simp)
    rw [h1] at hv
    cases hv
    have hbase : ∃ b, ad = ⟨b, 0, none⟩ := by
      obtain ⟨y', hy', zz, nn, cs', hyc', hlt⟩ := h4
      rw [hy] at hy'
      cases hy'
      have : cs' = cs := by rcases hyc with rfl | rfl <;> rcases hyc' with hh | hh <;> cases hh <;> rfl
      subst this
      obtain ⟨b, uu, had, _⟩ := hRy.node hyc' (List.getElem?_eq_getElem hlt)
      rw [had] at h2
      exact ⟨b, (Option.some.inj h2).symm⟩
    obtain ⟨b, rfl⟩ := hbase
    have hkids : y.kids = cs := by rcases hyc with rfl | rfl <;> rfl
    have cell : ∀ j, j < m → ∃ uu, w.cell? ⟨b, k + j, none⟩ = some uu ∧ uu.oneCell' = true ∧ ∃ xx, cs[k + j]? = some xx ∧ R w I (RG w T g) (refIn 0 (p.push (k + j)) xx) uu E0 := by
      intro j hj
      have hx' : cs[k + j]? = some cs[k + j] := List.getElem?_eq_getElem (by omega)
      obtain ⟨b', uu, had, hcell, hch, hone, Fk, hRk⟩ := hRy.node hyc hx'
      rw [h2] at had
      cases had
      exact ⟨uu, hcell, hone, _, hx', refIn_sound 0 (by rw [atP_push, hy]; simp [hkids]) (by rw [valAt_push, h1]; exact hch) hRk⟩
    have hex : ∃ us : List Value, us.length = m ∧ ∀ j v, us[j]? = some v → w.cell? ⟨b, k + j, none⟩ = some v := by
      refine ⟨(List.range m).map fun j => (w.cell? ⟨b, k + j, none⟩).getD undef, by simp, ?_⟩
      intro j v hj
      rw [List.getElem?_map] at hj
      by_cases hjm : j < m
      · rw [List.getElem?_range hjm] at hj
        simp only [Option.map_some, Option.some.injEq] at hj
        obtain ⟨uu, hc, _⟩ := cell j hjm
        rw [hc] at hj
        simp only [Option.getD_some] at hj
        rw [hc, hj]
      · rw [List.getElem?_eq_none (by simp; omega)] at hj; cases hj
    obtain ⟨us, hul, huc⟩ := hex
    refine ⟨.agg us.toArray, by simp only [execOp, h3]; simp [run_loadAgg ht hul (b := b) (o := k) huc], .agg (Fs := fun _ => E0) (by simp; omega) (fun j u hu' => by
      have hj := huc j u (by simpa using hu')
      have hjm : j < m := by rw [← hul]; exact (List.getElem?_eq_some_iff.1 (by simpa using hu' : us[j]? = some u)).1
      obtain ⟨uu, hc, h1c, _⟩ := cell j hjm
      rw [hc] at hj; cases hj; exact h1c) (fun j yy u hyy hu' => ?_) (fun _ _ _ _ _ h => h.elim) (fun c => ⟨fun h => h.elim, fun ⟨_, _, h⟩ => h⟩)⟩
    rw [List.getElem?_mapIdx, List.getElem?_take] at hyy
    split at hyy
    · rename_i hjm
      rw [List.getElem?_drop] at hyy
      obtain ⟨uu, hc, _, xx, hxx, hR⟩ := cell j hjm
      rw [hxx] at hyy
      simp only [Option.map_some, Option.some.injEq] at hyy
      subst hyy
      have := huc j u (by simpa using hu')
      rw [hc] at this
      cases this
      exact hR
    · cases hyy
  | @convB x _ s d n N p cs xs hx hp hn hcs ht =>
    obtain ⟨e, hs, he, hd⟩ := bytT_spec ht
    obtain ⟨⟨aa, N', cap, h1, h2, h3⟩, _⟩ := (ev hx).inv_brw
    obtain ⟨v, Fy, hv, hRy, hFy⟩ := h.part hp (by simp)
    rw [h1] at hv
    cases hv
    have hcl : (cs.take n).length = n := by
      obtain ⟨_, _, _, hl⟩ := hRy.own_slice
      rw [List.length_take]; omega
    have hlen : xs.length = n := by rw [← hcl, hcs, List.length_map]
    refine ⟨_, ?_, .lit rfl no⟩
    obtain ⟨_, _, hsl, _, _, hoff, hsome⟩ := hRy.own_slice
    cases hsl
    cases aa with
    | none =>
      have h0 : n = 0 := by
        rcases Nat.eq_zero_or_pos N with h | h
        · omega
        · exact absurd (hsome h) (by simp)
      have : xs = [] := List.eq_nil_of_length_eq_zero (hlen.trans h0)
      subst this
      have hr := run_convert_bytes_nil (P := P) (w := w) s e hs he n cap d hd
      simp [execOp, h2, hr]
      rfl
    | some ad =>
      obtain ⟨b, o, sp⟩ := ad
      obtain ⟨rfl, rfl⟩ := hoff _ rfl
      have hr := run_convert_bytes_arg (P := P) w s e hs he b 0 n cap xs hlen (fun i hi => by
        have hci : (cs.take n)[i]? = some (.lit (.int .u8 (xs.getD i 0))) := by
          rw [hcs, List.getElem?_map, List.getElem?_eq_getElem (by omega)]
          simp [List.getD, List.getElem?_eq_getElem (show i < xs.length by omega)]
        have hci' : cs[i]? = some (.lit (.int .u8 (xs.getD i 0))) := by
          rw [List.getElem?_take] at hci
          simpa [hi] using hci
        obtain ⟨b', u, had, hcell, _, _, Fk, hRk⟩ := hRy.node (.inl rfl) hci'
        simp only [addrOf, Option.some.injEq, Addr.mk.injEq, and_true] at had
        subst had
        rw [Nat.zero_add, hcell, hRk.inv_lit.1]) d hd
      simp [execOp, h2, hr]
  | @convI x _ s d n xs hx ht =>
    obtain ⟨e, hs, he, hd⟩ := bytT_spec ht
    have hR := ev hx
    generalize hev : a.eval x = v at hR
    refine ⟨_, ?_, .lit rfl no⟩
    generalize hcs : (xs.map fun b => AV.lit (.int .u8 b)) = cs at hR
    cases hR with
    | ref hx => simp [AV.isRef] at hx
    | @imm0 _ cap aa _ hF =>
      have : xs = [] := by simpa using hcs
      subst this
      cases aa with
      | none =>
        have hr := run_convert_bytes_nil (P := P) (w := w) s e hs he 0 cap d hd
        simp [execOp, hev, hr]
        rfl
      | some ad =>
        have hl : (loadCells ad 0).run P w = .ok (([] : List Int).map (Value.int .u8)).toArray w := by
          have := run_loadCells_list (P := P) w ad [] (fun j v hj => by simp at hj)
          simpa using this
        have hr := run_bytesToString w ad 0 cap [] hl
        have hc := run_convert_bytes_string (P := P) w s d e (some ad) 0 cap hs he hd
        rw [hr] at hc
        simp [execOp, hev, hc]
        rfl
    | @imm _ _ cap _ ad us _ hF hcap hI hs2 hl h1 hc hr =>
      obtain ⟨b, o, sp⟩ := ad
      simp only at hs2
      subst hs2
      have hlen : xs.length = n := by rw [← List.length_map (f := fun b => AV.lit (.int .u8 b)), hcs, hl, Nat.mul_one]
      have hr' := run_convert_bytes_arg (P := P) w s e hs he b o n cap xs hlen (fun i hi => by
        have hci : cs[i]? = some (.lit (.int .u8 (xs.getD i 0))) := by
          rw [← hcs, List.getElem?_map, List.getElem?_eq_getElem (by omega)]
          simp [List.getD, List.getElem?_eq_getElem (show i < xs.length by omega)]
        have := hc i _ hci
        simp only at this
        rw [this, (hr i _ hci).inv_lit.1]) d hd
      simp [execOp, hev, hr']
  | @extF xs tys _ f vs v hx hv hr =>
    refine ⟨v, ?_, .lit hv no⟩
    have hvs : xs.map a.eval = vs.toArray := by
      apply Array.toList_inj.1
      apply List.ext_getElem?
      intro k
      have := congrArg (·[k]?) hx
      simp only [List.getElem?_map] at this
      rw [Array.toList_map, List.getElem?_map]
      cases hk : xs.toList[k]? with
      | none =>
        rw [hk] at this
        cases hv : vs[k]? with
        | none => simp
        | some v => rw [hv] at this; cases this
      | some o =>
        rw [hk] at this
        cases hv : vs[k]? with
        | none => rw [hv] at this; cases this
        | some v =>
          rw [hv] at this
          simp only [Option.map_some, Option.some.injEq] at this ⊢
          rw [(ev this).inv_lit.1]
    have hf : a.eval (.func f) = .func (.func f) #[] #[] := rfl
    simp [execOp, resolve, Deferred.ofValue, invoke, hf, hvs, hr]
  | @idxStr x i _ t s kd j b hx hi ht hb =>
    have hsv := (ev hx).inv_lit.1
    have hiv := (ev hi).inv_lit.1
    refine ⟨.int .u8 b.toNat, ?_, .lit rfl no⟩
    simp [execOp, hsv, hiv, Instr.index, run_underlying (strT_spec ht), asIntOf, hb]
  | @bin op x y _ t t2 a' b v hx hy hv hr =>
    have h1 := (ev hx).inv_lit.1
    have h2 := (ev hy).inv_lit.1
    refine ⟨v, ?_, .lit hv no⟩
    simp only [execOp, h1, h2, Sem.run_bind (x := do eqGuard op t x y a' b; binOp op t a' b), hr, Result.andThen_ok, Sem.run_pure]
  | @un op x _ t a' v hx hv hr =>
    have h1 := (ev hx).inv_lit.1
    exact ⟨v, by simp [execOp, h1, hr], .lit hv no⟩
  | @conv x _ s d a' v hx hv hr =>
    have h1 := (ev hx).inv_lit.1
    exact ⟨v, by simp [execOp, h1, hr], .lit hv no⟩
  | @extr x _ i cs y hx hy =>
    obtain ⟨vs, h3, hl, hr⟩ := (ev hx).inv_tup no
    have hk : i < cs.length := (List.getElem?_eq_some_iff.1 hy).1
    have hv : vs[i]? = some vs[i] := Array.getElem?_eq_getElem (hl ▸ hk)
    exact ⟨_, by simp [execOp, h3, Instr.extract, hv], hr _ xv _ hy hv⟩
  | @sliceImm x lo hi _ t e z n l hh cs hx hl hhi ht hlh hn =>
    obtain ⟨hu, he, hz⟩ := slT_spec (w := w) ht
    obtain ⟨aa, cap, h3, hcap, hlen, hm⟩ := (ev hx).inv_imm
    have hb := run_bounds (P := P) (w := w) (len := n) (cap := cap) (hl.sound h ha) (hhi.sound h ha) true hlh (by omega)
    have hrun : (execOp a.eval { dst := dst, op := .slice t x lo hi none, type := ty, pos := pos, after := after, guard := guard }).run P w = .ok (.value (sliced aa l hh cap z)) w := by
      simp [execOp, h3, Instr.sliceAt, run_underlying hu, Instr.slice, hb, hz, sliced]
    refine ⟨_, hrun, ?_⟩
    by_cases h0 : hh - l = 0
    · rw [h0]
      simp only [Nat.zero_mul, List.take_zero, sliced, h0]
      exact .imm0 no
    · obtain ⟨ad, us, rfl, hI, hs, hone, hc, hr⟩ := hm (.inr (by omega))
      obtain ⟨b, o, sp⟩ := ad
      simp only at hs
      subst hs
      have hcl : cap ≠ l := by omega
      simp only [sliced, hcl, if_false, Option.map_some, add_eq]
      have hlen' : ((cs.drop (l * z)).take ((hh - l) * z)).length = (hh - l) * z := by
        rw [List.length_take, List.length_drop, hlen]
        have : (hh - l) * z + l * z ≤ n * z := by rw [← Nat.add_mul]; exact Nat.mul_le_mul_right _ (by omega)
        omega
      refine .imm (us := fun k => us (l * z + k)) no (by omega) hI rfl hlen' (fun k x hk => hone (l * z + k) x (by
        rw [List.getElem?_take] at hk
        split at hk
        · rwa [List.getElem?_drop] at hk
        · cases hk)) (fun k x hk => ?_) fun k x hk => ?_
      · rw [List.getElem?_take] at hk
        split at hk
        · rw [List.getElem?_drop] at hk; simpa [Nat.add_assoc] using hc _ x hk
        · cases hk
      · rw [List.getElem?_take] at hk
        split at hk
        · rw [List.getElem?_drop] at hk; exact hr _ x hk
        · cases hk
  | @sliceBrw0 x lo hi _ t e z n hh p hx hl hhi ht hn hok =>
    obtain ⟨hu, he, hz⟩ := slT_spec (w := w) ht
    obtain ⟨⟨aa, N, cap, h1, h2, h3⟩, h4⟩ := (ev hx).inv_brw
    have hcap : N ≤ cap := by
      rcases h4 with ⟨N', cs, h5, h6⟩ | ⟨h0, q, n0, m, new, h5, h6⟩
      · obtain ⟨v, Fy, hv, hRy, _⟩ := h.part h5 (by simp)
        rw [h1] at hv
        obtain ⟨_, cap2, hh2, hle, _⟩ := hRy.own_slice
        rw [hh2] at hv
        cases hv
        exact hle
      · obtain ⟨v, hv, hRy⟩ := h.rel _ _ h5
        simp only [valAt, hv, h0, walk, Option.some.injEq] at h1
        subst h1
        obtain ⟨bv, e', e2, us, news, hRy⟩ := hRy.isPend
        obtain ⟨_, hov⟩ := hRy.hov
        rcases hov with ⟨hh, h0⟩ | ⟨b, c2, cur, hh, _, _, hle, _⟩
        · cases hh; exact Nat.le_refl _
        · cases hh; exact hle
    have hb := run_bounds (P := P) (w := w) (len := n) (cap := cap) (hl.sound h ha) (hhi.sound h ha) true (Nat.zero_le _) (by omega)
    refine ⟨.slice aa hh cap, ?_, .ref rfl ⟨⟨aa, N, cap, h1, rfl, by omega⟩, hok⟩ no⟩
    simp [execOp, h2, Instr.sliceAt, run_underlying hu, Instr.slice, hb, hz]
    cases aa with
    | none => simp
    | some ad => simp [Addr.add]
  | @sliceBrw x lo hi _ t e z n l hh p hx hl hhi ht hlh hn hok =>
    obtain ⟨hu, he, hz⟩ := slT_spec (w := w) ht
    obtain ⟨⟨aa, N, cap, h1, h2, h3⟩, h4⟩ := (ev hx).inv_brw
    obtain ⟨N', cs, h5, h6⟩ := hok
    obtain ⟨v, Fy, hv, hRy, _⟩ := h.part h5 (by simp)
    rw [h1] at hv
    obtain ⟨a2, cap2, hh2, hle, hlen, hoff, hsome⟩ := hRy.own_slice
    rw [hh2] at hv
    cases hv
    have hb := run_bounds (P := P) (w := w) (len := n) (cap := cap) (hl.sound h ha) (hhi.sound h ha) true hlh (by omega)
    refine ⟨sliced aa l hh cap z, ?_, .ref rfl ⟨⟨aa, _, cap, _, _, h1, rfl, by omega, by omega, fun hpos => ?_⟩, _, cs, h5, h6⟩ no⟩
    · simp [execOp, h2, Instr.sliceAt, run_underlying hu, Instr.slice, hb, hz, sliced]
    · have hs := hsome (by omega)
      cases aa with
      | none => simp at hs
      | some ad =>
        obtain ⟨h0, hsp⟩ := hoff ad rfl
        obtain ⟨b, o, sp⟩ := ad
        simp only at h0 hsp
        subst h0 hsp
        exact ⟨_, rfl, by rw [if_neg (by omega)]; simp [add_eq]⟩
  | @sliceStr x lo hi _ t l hh s hx hl hhi ht hlh hn =>
    have hsv := (ev hx).inv_lit.1
    have hb := run_bounds (P := P) (w := w) (len := s.size) (cap := s.size) (hl.sound h ha) (hhi.sound h ha) false hlh hn
    exact ⟨.string (s.extract l hh), by simp [execOp, hsv, Instr.sliceAt, run_underlying (strT_spec ht), Instr.slice, hb], .lit rfl no⟩
  | @lenImm x _ t e z z' n cs hx ht =>
    obtain ⟨hu, he, hz⟩ := slT_spec (w := w) ht
    obtain ⟨aa, cap, h3, _⟩ := (ev hx).inv_imm
    exact ⟨_, by simp [execOp, resolve, invoke, builtin, h3, Builtin.len_, run_underlying hu, goInt], .lit rfl no⟩
  | @lenBrw x _ t e z z' n p hx ht =>
    obtain ⟨hu, he, hz⟩ := slT_spec (w := w) ht
    obtain ⟨⟨aa, N, cap, h1, h2, h3⟩, h4⟩ := (ev hx).inv_brw
    exact ⟨_, by simp [execOp, resolve, invoke, builtin, h2, Builtin.len_, run_underlying hu, goInt], .lit rfl no⟩
  | @lenSub x _ t e z z' lo n p hx ht =>
    obtain ⟨hu, he, hz⟩ := slT_spec (w := w) ht
    obtain ⟨⟨aa, N, cap, a', cap', h1, h2, _, h3, h5⟩, h4⟩ := (ev hx).inv_sub
    exact ⟨_, by simp [execOp, resolve, invoke, builtin, h2, Builtin.len_, run_underlying hu, goInt], .lit rfl no⟩
  | @lenNils x _ t e z' hx ht =>
    obtain ⟨hu, he, hz⟩ := slT_spec (w := w) ht
    have h2 := (ev hx).inv_nils
    exact ⟨_, by simp [execOp, resolve, invoke, builtin, h2, Builtin.len_, run_underlying hu, goInt], .lit rfl no⟩
  | @lits b xs tys _ vs v hx hv hr =>
    have hargs : xs.map a.eval = vs.toArray := by
      apply Array.ext'
      rw [Array.toList_map]
      exact litArgs h ha xs.toList vs hx
    refine ⟨v, ?_, .lit hv no⟩
    simp [execOp, resolve, invoke, hargs, hr]
end
end Go.Own
