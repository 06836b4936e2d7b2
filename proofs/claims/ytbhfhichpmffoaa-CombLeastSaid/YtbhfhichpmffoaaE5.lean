/-
  What is proved here: parts of the proof that the last text states: rules for walks through code, and of this program's functions what they answer. No condition of their own.
-/
import Derived.KernelRfl
import Derived.ProofKit
import Derived.RowKit3
import Derived.Test.YtbhfhichpmffoaaE4
namespace Go.Proofs
open Go Go.Own Go.Sort
set_option maxRecDepth 100000
set_option linter.unusedVariables false
def nz (ch : List Int) : List Nat := (List.range ch.length).filter fun k => decide (ch.getD k 0 ≠ 0)
def rlen (rows : List Rw) (i : Nat) : Nat := (rows[i]?.map List.length).getD 0
structure Inv (rows : List Rw) (l : List Nat) (c : Comb) : Prop where
  own : ∀ i ∈ l, ∃ (r : Rw) (b : Nat), rows[i]? = some r ∧ c.Base[i]? = some (b : Int) ∧ ∀ p ∈ r, b + p.At.toNat < c.Chk.length ∧ c.Chk.getD (b + p.At.toNat) 0 = (i : Int) + 1 ∧ c.Val.getD (b + p.At.toNat) 0 = p.Val
  who : ∀ k, c.Chk.getD k 0 ≠ 0 → ∃ i ∈ l, ∃ (r : Rw) (b : Nat), rows[i]? = some r ∧ c.Base[i]? = some (b : Int) ∧ ∃ p ∈ r, k = b + p.At.toNat ∧ c.Chk.getD k 0 = (i : Int) + 1
  zero : ∀ k, c.Chk.getD k 0 = 0 → c.Val.getD k 0 = 0
  last : c.Chk.length = 0 ∨ c.Chk.getD (c.Chk.length - 1) 0 ≠ 0
  least : ∀ i ∈ l, ∀ b : Nat, c.Base[i]? = some (b : Int) → ∀ b', b' < b → ∃ (r : Rw) (p : Pair) (i' : Nat), rows[i]? = some r ∧ p ∈ r ∧ i' ∈ l ∧ ltK rows (i' : Int) (i : Int) = true ∧ c.Chk.getD (b' + p.At.toNat) 0 = (i' : Int) + 1
  cnt : (nz c.Chk).length = (l.map (rlen rows)).sum
theorem mem_nz {ch : List Int} {k : Nat} : k ∈ nz ch ↔ ch.getD k 0 ≠ 0 := by
  unfold nz
  rw [List.mem_filter, List.mem_range]
  constructor
  · intro h; simpa using h.2
  · intro h
    refine ⟨Classical.byContradiction fun hk => h ?_, by simpa using h⟩
    rw [List.getD_eq_getElem?_getD, List.getElem?_eq_none (by omega)]; rfl
theorem nd_nz (ch : List Int) : (nz ch).Nodup := List.nodup_range.sublist List.filter_sublist
theorem Lst.inv {rows : List Rw} (hok : RowsOk rows) {l : List Nat} {c : Comb} (h : Lst rows l c) (hpw : l.Pairwise fun (a b : Nat) => ltK rows (a : Int) (b : Int) = false) : Inv rows l c := by
  induction h with
  | nil => exact ⟨fun _ h => absurd h (by simp), fun k h => absurd rfl h, fun _ _ => rfl, .inl rfl, fun _ h => absurd h (by simp), rfl⟩
  | @cons i b l c c' r hr hi hL hs ih =>
    have hpw' := List.pairwise_cons.1 hpw
    have I := ih hpw'.2
    have hro := hok.rows r (List.mem_of_getElem? hr)
    have hP := hs.put
    have hlen := hL.len
    have hil : i < c.Base.length := by rw [hlen.2]; exact (List.getElem?_eq_some_iff.1 hr).1
    have hbi : c'.Base[i]? = some (b : Int) := by rw [hs.base]; simp [hil]
    have hbj : ∀ j, j ≠ i → c'.Base[j]? = c.Base[j]? := fun j hj => by rw [hs.base, List.getElem?_set_ne (Ne.symm hj)]
    have hne : ∀ j ∈ l, j ≠ i := fun j hj e => hi (e ▸ hj)
    have free : ∀ k, c.Chk.getD k 0 ≠ 0 → ∀ p ∈ r, b + p.At.toNat ≠ k := fun k hk p hp e => hk (e ▸ hs.fit p hp)
    have keep : ∀ k, c.Chk.getD k 0 ≠ 0 → c'.Chk.getD k 0 = c.Chk.getD k 0 := fun k hk => hP.chn k (free k hk)
    refine ⟨fun j hj => ?_, fun k hk => ?_, fun k hk => ?_, ?_, fun j hj b1 hb1 b' hlt => ?_, ?_⟩
    · rcases List.mem_cons.1 hj with rfl | hj
      · exact ⟨r, b, hr, hbi, fun p hp => ⟨hP.in' p hp, hP.chk p hp, hP.val p hp⟩⟩
      · obtain ⟨r', b', h1, h2, h3⟩ := I.own j hj
        refine ⟨r', b', h1, by rw [hbj j (hne j hj)]; exact h2, fun p hp => ?_⟩
        obtain ⟨g1, g2, g3⟩ := h3 p hp
        have hnz : c.Chk.getD (b' + p.At.toNat) 0 ≠ 0 := by rw [g2]; omega
        exact ⟨Nat.lt_of_lt_of_le g1 hP.lo, by rw [keep _ hnz]; exact g2, by rw [hP.van _ (free _ hnz)]; exact g3⟩
    · by_cases hp : ∃ p ∈ r, b + p.At.toNat = k
      · obtain ⟨p, hp, rfl⟩ := hp
        exact ⟨i, by simp, r, b, hr, hbi, p, hp, rfl, hP.chk p hp⟩
      · have e := hP.chn k fun p hp' e => hp ⟨p, hp', e⟩
        rw [e] at hk ⊢
        obtain ⟨j, hj, r', b', h1, h2, h3⟩ := I.who k hk
        exact ⟨j, by simp [hj], r', b', h1, by rw [hbj j (hne j hj)]; exact h2, h3⟩
    · by_cases hp : ∃ p ∈ r, b + p.At.toNat = k
      · obtain ⟨p, hp, rfl⟩ := hp
        rw [hP.chk p hp] at hk; omega
      · have hn : ∀ p ∈ r, b + p.At.toNat ≠ k := fun p hp' e => hp ⟨p, hp', e⟩
        rw [hP.chn k hn] at hk
        rw [hP.van k hn]
        exact I.zero k hk
    · rcases hP.hi with e | ⟨p, hp, e⟩
      · rcases I.last with h0 | h0
        · exact .inl (by omega)
        · exact .inr (by rw [e, keep _ h0]; exact h0)
      · refine .inr ?_
        rw [e]
        show c'.Chk.getD (b + p.At.toNat + 1 - 1) 0 ≠ 0
        rw [Nat.add_sub_cancel, hP.chk p hp]; omega
    · rcases List.mem_cons.1 hj with rfl | hj
      · rw [hbi] at hb1
        have hbb : b = b1 := by injection hb1 with e; omega
        subst hbb
        have hnf := hs.least b' hlt
        obtain ⟨p, hp, hz⟩ : ∃ p ∈ r, c.Chk.getD (b' + p.At.toNat) 0 ≠ 0 :=
          Classical.byContradiction fun hn => hnf fun p hp => Classical.byContradiction fun hz => hn ⟨p, hp, hz⟩
        obtain ⟨i', hi', _, _, _, _, _, _, _, e⟩ := I.who _ hz
        refine ⟨r, p, i', hr, hp, by simp [hi'], ?_, by rw [keep _ hz]; exact e⟩
        have h1 := hpw'.1 i' hi'
        cases h2 : ltK rows (i' : Int) (j : Int) with
        | true => rfl
        | false => exact absurd (ltK_tot h2 h1) (by have := hne i' hi'; omega)
      · rw [hbj j (hne j hj)] at hb1
        obtain ⟨r', p, i', h1, h2, h3, h4, h5⟩ := I.least j hj b1 hb1 b' hlt
        exact ⟨r', p, i', h1, h2, by simp [h3], h4, by rw [keep _ (by rw [h5]; omega)]; exact h5⟩
    · have hperm : (nz c'.Chk).Perm (r.map (fun p => b + p.At.toNat) ++ nz c.Chk) := by
        refine (List.perm_ext_iff_of_nodup (nd_nz _) ?_).2 fun k => ?_
        · rw [List.nodup_append]
          refine ⟨?_, nd_nz _, fun x hx y hy e => ?_⟩
          · unfold List.Nodup
            rw [List.pairwise_map]
            have := hro.nd
            unfold List.Nodup at this
            rw [List.pairwise_map] at this
            refine this.imp_of_mem fun {p q} hp hq hne => ?_
            have h1 := hro.at' p hp
            have h2 := hro.at' q hq
            omega
          · obtain ⟨p, hp, rfl⟩ := List.mem_map.1 hx
            have h1 := mem_nz.1 hy
            rw [← e] at h1
            exact h1 (hs.fit p hp)
        · rw [mem_nz, List.mem_append, mem_nz, List.mem_map]
          by_cases hp : ∃ p ∈ r, b + p.At.toNat = k
          · obtain ⟨p, hp, rfl⟩ := hp
            rw [hP.chk p hp]
            exact ⟨fun _ => .inl ⟨p, hp, rfl⟩, fun _ => by omega⟩
          · rw [hP.chn k fun p hp' e => hp ⟨p, hp', e⟩]
            exact ⟨.inr, fun h => h.resolve_left hp⟩
      rw [hperm.length_eq, List.length_append, List.length_map, I.cnt, List.map_cons, List.sum_cons]
      simp [rlen, hr]
def get (r : Rw) (n : Int) : Int × Bool := match r.find? fun p => decide (p.At = n) with
  | some p => (p.Val, true)
  | none => (0, false)
theorem get_none {r : Rw} {n : Int} (h : ∀ p ∈ r, p.At ≠ n) : get r n = (0, false) := by
  unfold get
  rw [List.find?_eq_none.2 fun p hp => by simpa using h p hp]
theorem get_some {r : Rw} (hr : RowOk r) {p : Pair} (hp : p ∈ r) : get r p.At = (p.Val, true) := by
  unfold get
  cases h : r.find? fun q => decide (q.At = p.At) with
  | none => exact absurd (List.find?_eq_none.1 h p hp) (by simp)
  | some q =>
    have h1 : q.At = p.At := by simpa using List.find?_some h
    have h2 := List.mem_of_find?_eq_some h
    obtain ⟨i, hi, e1⟩ := List.mem_iff_getElem.1 h2
    obtain ⟨j, hj, e2⟩ := List.mem_iff_getElem.1 hp
    have := (List.getElem_inj (h₀ := by simpa using hi) (h₁ := by simpa using hj) hr.nd).1 (by simp only [List.getElem_map]; rw [e1, e2]; exact h1)
    subst this
    rw [e1] at e2
    rw [e2]
theorem g43 (r : Rw) (n : Int) (hl : r.length ≤ 100000) : pf43 r n = some (get r n) := by
  suffices h : Tot (pf43 r n) fun x => x = get r n by
    obtain ⟨x, hx, e⟩ := h; rw [hx, e]
  unfold pf43
  refine Tot.by' (Ξ := LR (fun _ => get r n = (0, false)) (fun x => x = get r n)) ?_ fun x hx => ?_
  · refine Tot.count (fun s => s) r.length (fun s => ∃ k : Nat, k ≤ r.length ∧ s = (k : Int) ∧ ∀ p ∈ r.take k, p.At ≠ n) ⟨0, Nat.zero_le _, rfl, fun _ h => absurd h (by simp)⟩ (by show (r.length : Int) - 0 < _; omega) fun s hs => ?_
    obtain ⟨k, hk, rfl, hn⟩ := hs
    refine Tot.cp (fun h => ?_) (fun h => .so ?_)
    · have hlt : k < r.length := by omega
      rw [idx_nat hlt]
      refine Tot.sm (Tot.cp (fun e => .so ?_) (fun e => .so ⟨⟨k + 1, by omega, by rw [w64_eq]; omega, fun p hp => ?_⟩, by show (k : Int) < w64 _; rw [w64_eq]; omega, by show w64 _ ≤ _; rw [w64_eq]; omega⟩))
      · show ((r[k]).Val, true) = get r n
        unfold get
        have hf : r.find? (fun p => decide (p.At = n)) = some r[k] := by
          rw [List.find?_eq_some_iff_getElem]
          refine ⟨by simpa using e, k, hlt, rfl, fun j hj => ?_⟩
          have := hn (r[j]'(by omega)) (List.mem_iff_getElem.2 ⟨j, by rw [List.length_take]; omega, by rw [List.getElem_take]⟩)
          simpa using this
        rw [hf]
      · rw [take_snoc hlt] at hp
        rcases List.mem_append.1 hp with hp | hp
        · exact hn p hp
        · rw [List.mem_singleton.1 hp]; exact e
    · have : k = r.length := by omega
      subst this
      rw [List.take_length] at hn
      exact get_none hn
  · rcases x with x | x
    · exact .so (Eq.symm hx)
    · exact .so hx
def getR (rows : List Rw) (a n : Int) : Int × Bool := match idx rows a with
  | some r => get r n
  | none => (0, false)
theorem g44 {rows : List Rw} (hok : RowsOk rows) {o : List Nat} (hO : Ordr rows o) {c : Comb} (hL : Lst rows o.reverse c) (hI : Inv rows o.reverse c) (hc : c.Chk.length ≤ 900000) (a n : Int) : pf44 c a n = some (getR rows a n) := by
  have hlen := hL.len
  suffices h : Tot (pf44 c a n) fun x => x = getR rows a n by
    obtain ⟨x, hx, e⟩ := h; rw [hx, e]
  have none' : (∀ r, idx rows a = some r → ∀ p ∈ r, p.At ≠ n) → getR rows a n = (0, false) := by
    intro h
    unfold getR
    cases hi : idx rows a with
    | none => rfl
    | some r => exact get_none (h r hi)
  have out : (a < 0 ∨ (c.Base.length : Int) ≤ a) → idx rows a = none := by
    intro h
    unfold idx
    rcases h with h | h
    · rw [if_neg (by omega)]
    · split
      · exact List.getElem?_eq_none (by omega)
      · rfl
  -- where the pairs of a row stand
  have at_ : ∀ r, idx rows a = some r → ∀ p ∈ r, 0 ≤ a ∧ ∃ b : Nat, c.Base[a.toNat]? = some (b : Int) ∧ b + p.At.toNat < c.Chk.length ∧ c.Chk.getD (b + p.At.toNat) 0 = (a.toNat : Int) + 1 ∧ c.Val.getD (b + p.At.toNat) 0 = p.Val := by
    intro r hr p hp
    have h0 : 0 ≤ a := by
      by_cases h0 : 0 ≤ a
      · exact h0
      · rw [idx, if_neg h0] at hr; cases hr
    have hr' : rows[a.toNat]? = some r := by rw [idx, if_pos h0] at hr; exact hr
    obtain ⟨r', b, h1, h2, h3⟩ := hI.own a.toNat (List.mem_reverse.2 ((hO.mem _).2 ⟨r, hr', fun e => by rw [e] at hp; simp at hp⟩))
    rw [hr'] at h1; cases h1
    exact ⟨h0, b, h2, h3 p hp⟩
  have hp0 : ∀ r, idx rows a = some r → ∀ p ∈ r, 0 ≤ p.At ∧ p.At ≤ 999 := by
    intro r hr p hp
    have : r ∈ rows := by
      unfold idx at hr
      split at hr
      · exact List.mem_of_getElem? hr
      · cases hr
    exact (hok.rows r this).at' p hp
  unfold pf44
  refine .by' (Ξ := fun x : Bool => (x = true → (a < 0 ∨ (c.Base.length : Int) ≤ a) ∨ n < 0 ∨ (c.Chk.length : Int) ≤ n) ∧ (x = false → 0 ≤ a ∧ a < c.Base.length ∧ 0 ≤ n ∧ n < c.Chk.length)) ?_ fun x hx => Tot.cd (fun h => ?_) (fun h => ?_)
  · refine Tot.cp (fun h => .so ⟨fun _ => .inl (.inl h), fun h => (by cases h)⟩) (fun h1 => Tot.cp (fun h => .so ⟨fun _ => .inl (.inr h), fun h => (by cases h)⟩) (fun h2 => Tot.cp (fun h => .so ⟨fun _ => .inr (.inl h), fun h => (by cases h)⟩) (fun h3 => .so ⟨fun h => .inr (.inr (of_decide_eq_true h)), fun h => ?_⟩)))
    have := of_decide_eq_false h
    omega
  · refine .so (Eq.symm (none' fun r hr p hp e => ?_))
    obtain ⟨h0, b, hb, h1, _⟩ := at_ r hr p hp
    have h2 := hp0 r hr p hp
    rcases hx.1 h with h' | h' | h'
    · rw [out h'] at hr; cases hr
    · omega
    · omega
  · obtain ⟨h0, h1, h2, h3⟩ := hx.2 h
    have halt : a.toNat < rows.length := by omega
    -- the base
    obtain ⟨b, hb, hb2⟩ : ∃ b : Nat, c.Base[a.toNat]? = some (b : Int) ∧ b ≤ 900000 := by
      by_cases hm : a.toNat ∈ o
      · obtain ⟨r', b, g1, g2, g3⟩ := hI.own a.toNat (List.mem_reverse.2 hm)
        refine ⟨b, g2, ?_⟩
        obtain ⟨r, e1, e2⟩ := (hO.mem _).1 hm
        rw [e1] at g1; cases g1
        obtain ⟨p, hp⟩ := List.exists_mem_of_ne_nil _ e2
        have := (g3 p hp).1
        omega
      · exact ⟨0, hL.rest _ halt (by simpa using hm), by omega⟩
    have hbi : idx c.Base a = some (b : Int) := by rw [idx, if_pos h0]; exact hb
    rw [hbi]
    have hw : w64 ((b : Int) + n) = ((b + n.toNat : Nat) : Int) := by rw [w64_eq]; omega
    have hwa : w64 (a + 1) = a + 1 := by rw [w64_eq]; have := hok.n; omega
    refine Tot.sm ?_
    rw [hw, hwa]
    refine .by' (Ξ := fun x : Bool => (x = true → ∀ r, idx rows a = some r → ∀ p ∈ r, p.At ≠ n) ∧ (x = false → b + n.toNat < c.Chk.length ∧ c.Chk.getD (b + n.toNat) 0 = a + 1)) (Tot.cp (fun h => .so ⟨fun _ r hr p hp e => ?_, fun h => (by cases h)⟩) (fun h => ?_)) fun x hx => Tot.cd (fun h => .so (Eq.symm (none' (hx.1 h)))) (fun h => ?_)
    · obtain ⟨_, b', e', g1, _⟩ := at_ r hr p hp
      rw [hb] at e'
      have : b = b' := by injection e' with e'; omega
      subst this
      subst e
      omega
    · have hl : b + n.toNat < c.Chk.length := by omega
      rw [idx_nat hl]
      have hg : c.Chk.getD (b + n.toNat) 0 = c.Chk[b + n.toNat] := by rw [List.getD_eq_getElem?_getD, List.getElem?_eq_getElem hl]; rfl
      rw [← hg]
      refine Tot.sm (.so ⟨fun h r hr p hp e => ?_, fun h => ⟨hl, by simpa using h⟩⟩)
      obtain ⟨_, b', e', _, g2, _⟩ := at_ r hr p hp
      rw [hb] at e'
      have : b = b' := by injection e' with e'; omega
      subst this
      subst e
      rw [g2] at h
      have : ¬ ((a.toNat : Int) + 1 = a + 1) := by simpa using h
      omega
    · obtain ⟨hl, he⟩ := hx.2 h
      have hlv : b + n.toNat < c.Val.length := by omega
      rw [idx_nat hlv]
      refine Tot.sm (.so ?_)
      obtain ⟨i, hi, r, b', e1, e2, p, hp, e3, e4⟩ := hI.who (b + n.toNat) (by rw [he]; omega)
      rw [he] at e4
      have hia : i = a.toNat := by omega
      subst hia
      rw [hb] at e2
      have : b = b' := by injection e2 with e2; omega
      subst this
      have hra : idx rows a = some r := by rw [idx, if_pos h0]; exact e1
      have hpr := hp0 r hra p hp
      have hpn : p.At = n := by omega
      obtain ⟨_, b', e', _, _, g3⟩ := at_ r hra p hp
      rw [hb] at e'
      have : b = b' := by injection e' with e'; omega
      subst this
      unfold getR
      rw [hra]
      show _ = get r n
      have hgs := get_some (hok.rows r (List.mem_of_getElem? e1)) hp
      rw [hpn, ← g3, hpn, List.getD_eq_getElem?_getD, List.getElem?_eq_getElem hlv] at hgs
      exact hgs.symm
end Go.Proofs
namespace Go.Proofs
open Go Go.Own Go.Sort
set_option maxRecDepth 100000
set_option linter.unusedVariables false
structure Laid (x : List Rw) (o : List Nat) (c : Comb) : Prop where
  ord : Ordr x o
  lst : Lst x o.reverse c
  inv : Inv x o.reverse c
  chk : c.Chk.length ≤ 900000
theorem l41 {x : List Rw} (hx : x.length ≤ 14 ∧ ∀ r ∈ x, Good r) : Tot (pf41 x) fun c => ∃ o, Laid x o c := by
  refine (c41 x (rowsB hx)).use fun c hc => ?_
  obtain ⟨h, o, ho, hL⟩ := hc.2 (rowsOk hx)
  exact ⟨o, ho, hL, hL.inv (rowsOk hx) (by rw [List.pairwise_reverse]; exact ho.pw), h⟩
theorem getR_in {x : List Rw} {a : Int} {r : Rw} (h : idx x a = some r) (n : Int) : getR x a n = get r n := by unfold getR; rw [h]
theorem getR_out {x : List Rw} {a : Int} (h : ¬ (0 ≤ a ∧ a < x.length)) (n : Int) : getR x a n = (0, false) := by
  unfold getR idx
  split
  · rename_i r hr
    split at hr
    · rename_i h0
      have := (List.getElem?_eq_some_iff.1 hr).1
      exact absurd ⟨h0, by omega⟩ h
    · cases hr
  · rfl
theorem gq {x : List Rw} (hx : x.length ≤ 14 ∧ ∀ r ∈ x, Good r) (a n : Int) {α : Type} (K : Int × Bool → Option α) :
    (((bif decide (0 ≤ a) then some (decide (a < (x.length : Int))) else some false)).bind fun c16 =>
((bif c16 then
(idx x a).bind fun x19 =>
(pf43 x19 n).bind fun x20 =>
some (x20.1, x20.2)
else
some (0, false))).bind K) = K (getR x a n) := by
  by_cases h : 0 ≤ a ∧ a < x.length
  · obtain ⟨r, hr, hm⟩ := idx_some' h.1 h.2
    rw [getR_in hr]
    have hrl := (hx.2 r hm).l
    simp [h.1, h.2, hr, g43 r n (by omega)]
  · rw [getR_out h]
    by_cases h0 : 0 ≤ a
    · have : ¬ a < x.length := fun h1 => h ⟨h0, h1⟩
      simp [h0, this]
    · simp [h0]
theorem t9 (a0 : List (List Int)) (a1 a2 a3 : Int) : pf9 a0 a1 a2 a3 = some true := by
  suffices h : Tot (pf9 a0 a1 a2 a3) fun r => r = true by
    obtain ⟨r, hr, e⟩ := h; rw [hr, e]
  unfold pf9
  rw [w37]
  refine Tot.sm (.by' (c38 a0 a1) fun x hx => .by' (l41 hx) fun c hc => ?_)
  obtain ⟨o, hL⟩ := hc
  have hg : ∀ a n, pf44 c a n = some (getR x a n) := fun a n => g44 (rowsOk hx) hL.ord hL.lst hL.inv hL.chk a n
  have hxl := hx.1
  simp only [hg, gq hx, Option.bind_some, decide_true, Bool.not_true, cond_false, beq_self_eq_true]
  refine .by' (Ξ := LR (fun _ => True) (fun _ => False)) ?_ fun y hy => ?_
  · refine Tot.count (fun s => s) ((x.length : Int) + 1) (fun s => -1 ≤ s) (Int.le_refl _) (by show (x.length : Int) + 1 - (-1) < _; omega) fun s hs => ?_
    refine Tot.cp (fun h => .by' (Ξ := LR (fun _ => True) (fun _ => False)) ?_ fun y hy => ?_) (fun h => .so trivial)
    · refine Tot.count (fun s => s) 70 (fun s => -1 ≤ s) (Int.le_refl _) (by decide) fun s hs => ?_
      refine Tot.cp (fun h => .so ⟨?_, ?_, ?_⟩) (fun h => .so trivial)
      · show -1 ≤ w64 (s + 1); rw [w64_eq]; omega
      · show s < w64 (s + 1); rw [w64_eq]; omega
      · show w64 (s + 1) ≤ 70; rw [w64_eq]; omega
    · rcases y with y | y
      · refine .so ⟨?_, ?_, ?_⟩
        · show -1 ≤ w64 (s + 1); rw [w64_eq]; omega
        · show s < w64 (s + 1); rw [w64_eq]; omega
        · show w64 (s + 1) ≤ _; rw [w64_eq]; omega
      · exact hy.elim
  · rcases y with y | y
    · refine .by' (Ξ := fun r => r = true) ?_ fun r hr => .so hr
      refine Tot.cp (fun h => Tot.cp (fun h' => .so rfl) (fun h' => .so ?_)) (fun h => .so ?_)
      · rw [getR_out (fun hh => h' hh.2)]; rfl
      · rw [getR_out (fun hh => h hh.1)]; rfl
    · exact hy.elim
end Go.Proofs
namespace Go.Proofs
open Go Go.Own Go.Sort
set_option maxRecDepth 100000
set_option linter.unusedVariables false
theorem sum_filter (f : Nat → Nat) : ∀ l : List Nat, ((l.filter fun i => decide (f i ≠ 0)).map f).sum = (l.map f).sum
  | [] => rfl
  | i :: l => by
    rw [List.filter_cons, List.map_cons, List.sum_cons, ← sum_filter f l]
    by_cases h : f i = 0
    · simp [h]
    · simp [h]
theorem sum_laid {rows : List Rw} {o : List Nat} (ho : Ordr rows o) : (o.reverse.map (rlen rows)).sum = (rows.map List.length).sum := by
  have h1 : rows.map List.length = (List.range rows.length).map (rlen rows) := by
    apply List.ext_getElem (by simp)
    intro i h1 h2
    rw [List.getElem_map, List.getElem_map, List.getElem_range]
    rw [List.length_map] at h1
    simp [rlen, h1]
  rw [h1, ← sum_filter (rlen rows) (List.range rows.length)]
  refine List.Perm.sum_nat (List.Perm.map _ ((List.perm_ext_iff_of_nodup ((List.reverse_perm o).nodup_iff.2 ho.nd) (List.nodup_range.sublist List.filter_sublist)).2 fun i => ?_))
  rw [List.mem_reverse, ho.mem i, List.mem_filter, List.mem_range]
  constructor
  · rintro ⟨r, hr, hne⟩
    refine ⟨(List.getElem?_eq_some_iff.1 hr).1, ?_⟩
    have : r.length ≠ 0 := fun e => hne (List.eq_nil_of_length_eq_zero e)
    simp [rlen, hr, hne]
  · rintro ⟨h1, h2⟩
    refine ⟨_, List.getElem?_eq_getElem h1, fun e => ?_⟩
    simp [rlen, h1, e] at h2
theorem len_le {rows : List Rw} : ∀ (l : List Rw), (∀ r ∈ l, r.length ≤ 12) → (l.map List.length).sum ≤ 12 * l.length
  | [], _ => Nat.le_refl _
  | r :: l, h => by
    have := len_le (rows := rows) l fun q hq => h q (by simp [hq])
    have := h r (by simp)
    simp only [List.map_cons, List.sum_cons, List.length_cons]
    omega
theorem Laid.row {x : List Rw} {o : List Nat} {c : Comb} (h : Laid x o c) {k : Nat} {r : Rw} (hr : x[k]? = some r) : ∃ b : Nat, c.Base[k]? = some (b : Int) ∧ b ≤ 900000 ∧ (r = [] → b = 0) ∧ (r ≠ [] → k ∈ o) ∧ ∀ p ∈ r, b + p.At.toNat < c.Chk.length ∧ c.Chk.getD (b + p.At.toNat) 0 = (k : Int) + 1 ∧ c.Val.getD (b + p.At.toNat) 0 = p.Val := by
  by_cases hk : k ∈ o
  · obtain ⟨r', b, h1, h2, h3⟩ := h.inv.own k (List.mem_reverse.2 hk)
    rw [hr] at h1; cases h1
    obtain ⟨r', e1, e2⟩ := (h.ord.mem k).1 hk
    rw [hr] at e1; cases e1
    obtain ⟨p, hp⟩ := List.exists_mem_of_ne_nil _ e2
    have := (h3 p hp).1
    have := h.chk
    exact ⟨b, h2, by omega, fun e => absurd e e2, fun _ => hk, h3⟩
  · have hn : r = [] := Classical.byContradiction fun hne => hk ((h.ord.mem k).2 ⟨r, hr, hne⟩)
    refine ⟨0, h.lst.rest k (List.getElem?_eq_some_iff.1 hr).1 (by simpa using hk), by omega, fun _ => rfl, fun e => absurd hn e, fun p hp => ?_⟩
    rw [hn] at hp
    simp at hp
theorem idx_get {l : List Int} {k : Nat} (h : k < l.length) : idx l (k : Int) = some (l.getD k 0) := by
  rw [idx_nat h, List.getD_eq_getElem?_getD, List.getElem?_eq_getElem h]; rfl
theorem t10 (a0 : List (List Int)) (a1 : Int) : pf10 a0 a1 = some true := by
  suffices h : Tot (pf10 a0 a1) fun r => r = true by
    obtain ⟨r, hr, e⟩ := h; rw [hr, e]
  unfold pf10
  rw [w37]
  refine Tot.sm (.by' (c38 a0 a1) fun x hx => .by' (l41 hx) fun c hc => ?_)
  obtain ⟨o, hL⟩ := hc
  have hxl := hx.1
  have hlen := hL.lst.len
  have hchk := hL.chk
  refine .by' (Ξ := fun b => b = false) (Tot.cn (fun h => absurd (by rw [hlen.2]) h) (fun _ => .so ?_)) fun b hb => ?_
  · rw [hlen.1]; simp
  subst hb
  refine Tot.by' (Ξ := LR (fun n : Int => n = ((x.map List.length).sum : Nat)) (fun _ => False)) ?_ fun y hy => ?_
  · refine Tot.count (fun s => s.2) x.length (fun s => ∃ k : Nat, k ≤ x.length ∧ s.2 = (k : Int) ∧ s.1 = (((x.take k).map List.length).sum : Nat)) ⟨0, Nat.zero_le _, rfl, rfl⟩ (by show (x.length : Int) - 0 < _; omega) fun s hs => ?_
    obtain ⟨n, k'⟩ := s
    obtain ⟨k, hk, rfl, rfl⟩ := hs
    simp only
    refine Tot.cp (fun hlt => ?_) (fun hge => .so ?_)
    · have hlt : k < x.length := by omega
      have hr : x[k]? = some x[k] := List.getElem?_eq_getElem hlt
      have hgr := hx.2 _ (List.getElem_mem hlt)
      have hidx : idx x (k : Int) = some x[k] := idx_nat hlt
      have htk : (x.take (k + 1)).map List.length = (x.take k).map List.length ++ [(x[k]).length] := by
        rw [List.take_add_one, hr, List.map_append]; rfl
      have hsum : ((x.take k).map List.length).sum ≤ 12 * (x.take k).length := len_le (rows := x) _ fun r hr => (hx.2 r (List.mem_of_mem_take hr)).l
      have hsum : ((x.take k).map List.length).sum ≤ 200 := by
        rw [List.length_take] at hsum; omega
      generalize x[k] = r at *
      obtain ⟨b, hb, hb9, hb0, hbo, hat⟩ := hL.row hr
      have hbi : idx c.Base (k : Int) = some (b : Int) := by simp [idx, hb]
      simp only [hbi, hidx, Option.bind_some]
      refine .by' (Ξ := fun b => b = false) (Tot.cp (fun h => by omega) (fun _ => Tot.cp (fun h => .so ?_) (fun _ => .so rfl))) fun y hy => ?_
      · rw [hb0 (List.eq_nil_of_length_eq_zero (by omega))]; rfl
      subst hy
      refine Tot.by' (Ξ := LR (fun n : Int => n = (((x.take k).map List.length).sum + r.length : Nat)) (fun _ => False)) ?_ fun y hy => ?_
      · have hrl := hgr.l
        refine Tot.count (fun s => s.2) r.length (fun s => ∃ j : Nat, j ≤ r.length ∧ s.2 = (j : Int) ∧ s.1 = (((x.take k).map List.length).sum + j : Nat)) ⟨0, Nat.zero_le _, rfl, rfl⟩ (by show (r.length : Int) - 0 < _; omega) fun s hs => ?_
        obtain ⟨m, j'⟩ := s
        obtain ⟨j, hj, rfl, rfl⟩ := hs
        simp only
        refine Tot.cp (fun hlt => ?_) (fun hge => .so ?_)
        · have hlt : j < r.length := by omega
          rw [idx_nat hlt]
          have hp := hgr.ok.at' _ (List.getElem_mem hlt)
          obtain ⟨h1, h2, h3⟩ := hat _ (List.getElem_mem hlt)
          have hw : w64 ((b : Int) + (r[j]).At) = ((b + (r[j]).At.toNat : Nat) : Int) := by rw [w64_eq]; omega
          have hwk : w64 ((k : Int) + 1) = (k : Int) + 1 := by rw [w64_eq]; omega
          simp only [Option.bind_some, hw, hwk]
          rw [idx_get h1, idx_get (by rw [hlen.1]; exact h1), h2, h3]
          refine Tot.by' (Ξ := fun b => b = false) (Tot.cp (fun h => by omega) (fun _ => Tot.sm (Tot.cn (fun h => absurd rfl h) (fun _ => Tot.sm (.so (by simp)))))) fun y hy => ?_
          subst hy
          refine .so ⟨⟨j + 1, by omega, ?_, ?_⟩, ?_, ?_⟩
          · show w64 _ = _; rw [w64_eq]; omega
          · show w64 _ = _; rw [w64_eq]; omega
          · show (j : Int) < w64 _; rw [w64_eq]; omega
          · show w64 _ ≤ _; rw [w64_eq]; omega
        · have : j = r.length := by omega
          subst this
          rfl
      · rcases y with y | y
        · have hy : y = (((x.take k).map List.length).sum + r.length : Nat) := hy
          refine .so ⟨⟨k + 1, by omega, ?_, ?_⟩, ?_, ?_⟩
          · show w64 _ = _; rw [w64_eq]; omega
          · show y = _
            rw [htk, List.sum_append, hy]; simp
          · show (k : Int) < w64 _; rw [w64_eq]; omega
          · show w64 _ ≤ _; rw [w64_eq]; omega
        · exact hy.elim
    · have : k = x.length := by omega
      subst this
      rw [List.take_length]
      rfl
  · rcases y with y | y
    · have hy : y = ((x.map List.length).sum : Nat) := hy
      refine Tot.by' (Ξ := LR (fun n : Int => n = ((nz c.Chk).length : Nat)) (fun _ => False)) ?_ fun z hz => ?_
      · refine Tot.count (fun s => s.2) c.Chk.length (fun s => ∃ k : Nat, k ≤ c.Chk.length ∧ s.2 = (k : Int) ∧ s.1 = (((List.range k).filter fun k => decide (c.Chk.getD k 0 ≠ 0)).length : Nat)) ⟨0, Nat.zero_le _, rfl, rfl⟩ (by show (c.Chk.length : Int) - 0 < _; omega) fun s hs => ?_
        obtain ⟨m, k'⟩ := s
        obtain ⟨k, hk, rfl, rfl⟩ := hs
        simp only
        have hfl := List.length_filter_le (fun k => decide (c.Chk.getD k 0 ≠ 0)) (List.range k)
        rw [List.length_range] at hfl
        refine Tot.cp (fun hlt => ?_) (fun hge => .so ?_)
        · have hlt : k < c.Chk.length := by omega
          rw [idx_get hlt]
          have hw : w64 ((k : Int) + 1) = ((k + 1 : Nat) : Int) := by rw [w64_eq]; omega
          rw [hw]
          refine Tot.sm (Tot.cn (fun h => .so ⟨⟨k + 1, by omega, rfl, ?_⟩, ?_, ?_⟩) (fun h => ?_))
          · show w64 _ = _
            rw [List.range_succ, List.filter_append, List.length_append]
            have : (List.filter (fun k => decide (c.Chk.getD k 0 ≠ 0)) [k]).length = 1 := by
              rw [List.filter_cons, if_pos (by simpa using h)]; rfl
            rw [this, w64_eq]; omega
          · show (k : Int) < ((k + 1 : Nat) : Int); omega
          · show ((k + 1 : Nat) : Int) ≤ _; omega
          · rw [idx_get (by rw [hlen.1]; exact hlt), hL.inv.zero k h]
            refine .by' (Ξ := fun b => b = false) (Tot.sm (Tot.cn (fun h => absurd rfl h) (fun _ => .so (decide_eq_false fun e => ?_)))) fun y hy => ?_
            · rcases hL.inv.last with h' | h'
              · omega
              · have : c.Chk.length - 1 = k := by omega
                rw [this] at h'
                exact h' h
            · subst hy
              refine .so ⟨⟨k + 1, by omega, rfl, ?_⟩, ?_, ?_⟩
              · show ((List.length _ : Nat) : Int) = _
                rw [List.range_succ, List.filter_append, List.length_append]
                have : (List.filter (fun k => decide (c.Chk.getD k 0 ≠ 0)) [k]).length = 0 := by
                  rw [List.filter_cons, if_neg (by simpa using h)]; rfl
                rw [this]; rfl
              · show (k : Int) < ((k + 1 : Nat) : Int); omega
              · show ((k + 1 : Nat) : Int) ≤ _; omega
        · have : k = c.Chk.length := by omega
          subst this
          rfl
      · rcases z with z | z
        · have hz : z = ((nz c.Chk).length : Nat) := hz
          refine .so (decide_eq_true ?_)
          rw [hy, hz, hL.inv.cnt, sum_laid hL.ord]
        · exact hz.elim
    · exact hy.elim
theorem t11 (a0 : List (List Int)) (a1 : Int) : pf11 a0 a1 = some true := by
  suffices h : Tot (pf11 a0 a1) fun r => r = true by
    obtain ⟨r, hr, e⟩ := h; rw [hr, e]
  unfold pf11
  rw [w37]
  refine Tot.sm (.by' (c38 a0 a1) fun x hx => .by' (l41 hx) fun c hc => ?_)
  obtain ⟨o, hL⟩ := hc
  have hxl := hx.1
  have hlen := hL.lst.len
  have hchk := hL.chk
  refine Tot.cn (fun h => absurd (by rw [hlen.2]) h) (fun _ => ?_)
  refine .by' (Ξ := LR (fun _ => True) (fun _ => False)) ?_ fun y hy => ?_
  · refine Tot.count (fun s => s) x.length (fun s => 0 ≤ s) (Int.le_refl _) (by show (x.length : Int) - 0 < _; omega) fun s hs => ?_
    refine Tot.cp (fun hlt => ?_) (fun h => .so trivial)
    obtain ⟨k, rfl⟩ : ∃ k : Nat, s = (k : Int) := ⟨s.toNat, by omega⟩
    have hlt : k < x.length := by omega
    have hr : x[k]? = some x[k] := List.getElem?_eq_getElem hlt
    have hgr := hx.2 _ (List.getElem_mem hlt)
    have hidx : idx x (k : Int) = some x[k] := idx_nat hlt
    generalize x[k] = r at *
    obtain ⟨b, hb, hb9, hb0, hbo, hat⟩ := hL.row hr
    have hbi : idx c.Base (k : Int) = some (b : Int) := by simp [idx, hb]
    have hrl := hgr.l
    simp only [hbi, hidx, Option.bind_some]
    refine .by' (Ξ := LR (fun _ => True) (fun _ => False)) ?_ fun y hy => ?_
    · refine Tot.count (fun s => s) b (fun s => 0 ≤ s) (Int.le_refl _) (by show (b : Int) - 0 < _; omega) fun s hs => ?_
      refine Tot.cp (fun hlt => ?_) (fun h => .so trivial)
      obtain ⟨b', rfl⟩ : ∃ b' : Nat, s = (b' : Int) := ⟨s.toNat, by omega⟩
      have hb' : b' < b := by omega
      -- what is in the way
      have hne : r ≠ [] := fun e => by have := hb0 e; omega
      obtain ⟨r', p0, i0, e1, hp0, hi0, hlt0, hc0⟩ := hL.inv.least k (List.mem_reverse.2 (hbo hne)) b hb b' hb'
      rw [hr] at e1; cases e1
      refine .by' (Ξ := fun x => x = true) ?_ fun y hy => ?_
      · refine Tot.count (fun s => s.2) r.length (fun s => ∃ j : Nat, j ≤ r.length ∧ s.2 = (j : Int) ∧ (p0 ∈ r.take j → s.1 = true)) ⟨0, Nat.zero_le _, rfl, fun h => absurd h (by simp)⟩ (by show (r.length : Int) - 0 < _; omega) fun s hs => ?_
        obtain ⟨f, j'⟩ := s
        obtain ⟨j, hj, rfl, hf⟩ := hs
        simp only at hf ⊢
        refine Tot.cp (fun hlt => ?_) (fun hge => .so (hf ?_))
        · have hlt : j < r.length := by omega
          rw [idx_nat hlt]
          have hp := hgr.ok.at' _ (List.getElem_mem hlt)
          have htk : r.take (j + 1) = r.take j ++ [r[j]] := take_snoc hlt
          generalize r[j] = p at *
          have hw : w64 ((b' : Int) + p.At) = ((b' + p.At.toNat : Nat) : Int) := by rw [w64_eq]; omega
          simp only [Option.bind_some, hw]
          have fin : ∀ f' : Bool, (f = true → f' = true) → (p = p0 → f' = true) → Tot (some (Sum.inl (f', w64 ((j : Int) + 1))) : Option ((Bool × Int) ⊕ Bool)) (LR (fun s' => (∃ j : Nat, j ≤ r.length ∧ s'.2 = (j : Int) ∧ (p0 ∈ r.take j → s'.1 = true)) ∧ (j : Int) < s'.2 ∧ s'.2 ≤ r.length) fun x => x = true) := by
            intro f' h1 h2
            refine .so ⟨⟨j + 1, by omega, by show w64 _ = _; rw [w64_eq]; omega, fun hm => ?_⟩, by show (j : Int) < w64 _; rw [w64_eq]; omega, by show w64 _ ≤ _; rw [w64_eq]; omega⟩
            rw [htk] at hm
            rcases List.mem_append.1 hm with hm | hm
            · exact h1 (hf hm)
            · exact h2 (List.mem_singleton.1 hm).symm
          refine .by' (Ξ := fun f' : Bool => (f = true → f' = true) ∧ (p = p0 → f' = true)) ?_ fun f' h => fin f' h.1 h.2
          refine .by' (Ξ := fun t : Bool => (t = true → c.Chk.getD (b' + p.At.toNat) 0 = 0) ∧ (t = false → b' + p.At.toNat < c.Chk.length ∧ c.Chk.getD (b' + p.At.toNat) 0 ≠ 0)) (Tot.cp (fun h => .so ⟨fun _ => ?_, fun h => (by cases h)⟩) (fun h => ?_)) fun t ht => Tot.cd (fun h => ?_) (fun h => ?_)
          · rw [List.getD_eq_getElem?_getD, List.getElem?_eq_none (by omega)]; rfl
          · have hl : b' + p.At.toNat < c.Chk.length := by omega
            rw [idx_get hl]
            exact Tot.sm (.so ⟨fun h => of_decide_eq_true h, fun h => ⟨hl, of_decide_eq_false h⟩⟩)
          · refine .so ⟨id, fun e => ?_⟩
            subst e
            have := ht.1 h
            rw [hc0] at this
            omega
          · obtain ⟨hl, hnz⟩ := ht.2 h
            rw [idx_get hl]
            obtain ⟨i, hi, ri, bi, g1, g2, q, hq, g3, g4⟩ := hL.inv.who _ hnz
            have hil : i < x.length := (List.getElem?_eq_some_iff.1 g1).1
            have hwi : w64 (c.Chk.getD (b' + p.At.toNat) 0 - 1) = (i : Int) := by rw [g4, w64_eq]; omega
            have hii : idx x (i : Int) = some ri := by simp [idx, g1]
            simp only [Option.bind_some, hwi, hii]
            refine .by' (Ξ := fun f' : Bool => (f = true → f' = true) ∧ (p = p0 → f' = true)) ?_ fun f' h => .so h
            refine Tot.cd (fun h => .so ⟨fun _ => rfl, fun _ => rfl⟩) (fun hff => ?_)
            refine Tot.cp (fun _ => ?_) (fun h => absurd (by omega) h)
            refine Tot.cp (fun _ => ?_) (fun h => absurd (by omega) h)
            have key : p = p0 → ltK x (i : Int) (k : Int) = true := by
              rintro rfl
              rw [hc0] at g4
              have : i0 = i := by omega
              subst this
              exact hlt0
            rw [ltK_iff, lenI_nat g1, lenI_nat hr] at key
            refine Tot.cp (fun _ => .so ⟨fun _ => rfl, fun _ => rfl⟩) (fun h1 => ?_)
            refine Tot.cp (fun h2 => .so ⟨fun h => (by rw [hff] at h; cases h), fun e => decide_eq_true ?_⟩) (fun h2 => .so ⟨fun h => (by rw [hff] at h; cases h), fun e => ?_⟩)
            · have := key e; omega
            · have := key e; omega
        · have : j = r.length := by omega
          subst this
          rw [List.take_length]
          exact hp0
      · subst hy
        refine .so ⟨?_, ?_, ?_⟩
        · show 0 ≤ w64 _; rw [w64_eq]; omega
        · show (b' : Int) < w64 _; rw [w64_eq]; omega
        · show w64 _ ≤ _; rw [w64_eq]; omega
    · rcases y with y | y
      · refine .so ⟨?_, ?_, ?_⟩
        · show 0 ≤ w64 _; rw [w64_eq]; omega
        · show (k : Int) < w64 _; rw [w64_eq]; omega
        · show w64 _ ≤ _; rw [w64_eq]; omega
      · exact hy.elim
  · rcases y with y | y
    · exact .so rfl
    · exact hy.elim
end Go.Proofs
namespace Go.Own
open Go Go.ChangeShapes Go.WideShapes Go.ChangeAt Go.RowKit
variable {H : Type} {enc : TypeId × Value → H} {P : Program}
theorem post_old {f : Func} {s : ChangeSpec} {apart fresh handsOn again : Bool} {W W' : World} {args : Array Value} {v : Value} {ds gs : List (DataW H)} {before pa pv : List MemPlace}
    (hW : DataW.Whole enc P f.params.toList s.vars apart W args.toList ds gs before) (hk : Kp W W') (hps : before = pa ++ pv)
    (hres : ∀ (b : Nat) (sp : Nat → Bool) (hd : Bool), DataW.TrodAll enc P W' b sp hd f.resultTypes.toList (v.resultList f.resultTypes.size) (s.fn H (ds ++ gs)).results [])
    (hargs : ∀ sp : Nat → Bool, (∀ p ∈ before, sp p.block = true) → DataW.TrodAll enc P W' 0 sp true f.params.toList args.toList (s.fn H (ds ++ gs)).args pa)
    (hvars : ∀ sp : Nat → Bool, (∀ p ∈ before, sp p.block = true) → DataW.TrodVars enc P W' sp s.vars (s.fn H (ds ++ gs)).vars pv)
    (hok : ∀ (j : Nat) (t : TypeId) (r : Value), f.resultTypes[j]? = some t → (v.resultList f.resultTypes.size)[j]? = some r → Value.okWide P W' .any 0 t r) :
    s.post enc P f apart fresh handsOn again W args v W' := by
  subst hps
  have hlt : ∀ p ∈ pa ++ pv, p.block < W.heap.size := fun p hp => hW.lt p hp
  have hsp : ∀ p ∈ pa ++ pv, (fun b => decide (b < W.heap.size)) p.block = true := fun p hp => decide_eq_true (hlt p hp)
  have hWh := hW
  obtain ⟨_, _, _, _, _, hz, hn⟩ := hWh
  have ht := trodAll_append (hargs (fun _ => true) (fun _ _ => rfl)) (hres 0 (fun _ => true) true)
  refine ⟨ds, gs, pa ++ pv, [], pa, pv, hW, hres _ _ _, hargs _ hsp, hvars _ hsp, hk.kept _, fun _ => ⟨hok, _, _, pa ++ pv, ⟨_, pv, ht, hvars _ (fun _ _ => rfl), rfl, fun b off hp => ?_, hn⟩, fun p hp _ => hp⟩⟩
  rw [hk.fz _ (hlt _ hp)]
  exact hz b off hp
end Go.Own
namespace Go.Proofs
open Go Go.Own
set_option maxRecDepth 100000
theorem uI : Try.prog.underlying 3 = some (.int .i64) := by kernel_rfl
def okI (n : Int) : Prop := (Lit.int .i64 n).wf = true
def okL {α : Type} (p : α → Prop) (l : List α) : Prop := l.length ≤ maxLen ∧ ∀ x ∈ l, p x
theorem aI : Ar Try.prog eI 3 okI := .int uI (by kernel_rfl) fun _ => rfl
theorem uLI : Try.prog.underlying 33 = some (.slice 3) := by kernel_rfl
theorem aLI : Ar Try.prog (eM eI) 33 (okL okI) := aI.slice (t := 33) uLI (by kernel_rfl) (by decide)
theorem uLLI : Try.prog.underlying 40 = some (.slice 33) := by kernel_rfl
theorem aLLI : Ar Try.prog (eM (eM eI)) 40 (okL (okL okI)) := aLI.slice (t := 40) uLLI (by kernel_rfl) (by decide)
theorem pLaid : laidOutB Try.prog = true := by kernel_rfl
theorem pMaps : mapsRowed Try.prog = true := by kernel_rfl
theorem pFull : ((List.range Try.prog.types.size).all fun t => match Try.prog.underlying t with | some (.slice e) => decide (0 < Try.prog.cellsOf e) | _ => true) = true := by kernel_rfl
end Go.Proofs
