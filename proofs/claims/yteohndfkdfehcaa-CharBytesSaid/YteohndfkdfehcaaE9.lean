import Derived.Test.YteohndfkdfehcaaE8
namespace Go.Own
open Go

/-- What an append has done to the row that it began with. -/
structure AppRun (w w' : World) (bv v' : Value) (e e2 : TypeId) (z n m : Nat) (us news : List Value) : Prop where
  old : w'.ownsRow 0 e z bv n us
  new : w'.ownsRow 0 e2 z v' (n + m) (us ++ news)
  fr : Fr w w' (fun c => bv.ownBlock = some c)
  blk : ∀ c, v'.ownBlock = some c → bv.ownBlock = some c ∨ w.heap.size ≤ c
  sp : ∀ c, bv.ownBlock = some c → ∃ arr arr' : Array Value, w.heap[c]? = some (.cells arr e (0, 0)) ∧ w'.heap[c]? = some (.cells arr' e (0, 0)) ∧ arr'.size = arr.size ∧ arr'.toList.take (n * z) = arr.toList.take (n * z)

section
variable {P : Program} {w : World}

theorem AppRun.same {bv v' : Value} {e e2 : TypeId} {z n m : Nat} {us news : List Value} {w' : World} (hob : w.ownsRow 0 e z bv n us) (hb : ∀ c, c < w.heap.size → w'.heap[c]? = w.heap[c]?) (hs : w.heap.size ≤ w'.heap.size)
    (h1 : w'.os = w.os) (h2 : w'.tape = w.tape) (h3 : w'.output = w.output) (hnew : w'.ownsRow 0 e2 z v' (n + m) (us ++ news)) (hblk : ∀ c, v'.ownBlock = some c → bv.ownBlock = some c ∨ w.heap.size ≤ c) (hfz : ∀ a, w'.frozen? a = w.frozen? a) : AppRun w w' bv v' e e2 z n m us news := by
  have hlt := hob.lt
  refine ⟨ownsRow_of_block hob fun c hc => hb c (hlt c hc).2, hnew, ⟨h1, h2, h3, hs, fun b hb' _ => hb b hb', hfz⟩, hblk, fun c hc => ?_⟩
  obtain ⟨_, hh⟩ := hob
  rcases hh with ⟨rfl, _⟩ | ⟨b, cap, cur, rfl, _, hg, _⟩
  · simp [Value.ownBlock] at hc
  · simp only [Value.ownBlock, Option.some.injEq] at hc
    subst hc
    exact ⟨cur, cur, hg, (hb _ (hlt b rfl).2).trans hg, rfl, rfl⟩

theorem run_append_room' (t ty e e' : TypeId) (i : TypeInfo) (ht : P.underlying t = some (.slice e)) (hi : P.info? e = some i)
    (b sLen sCap : Nat) (cur : Array Value) (hg : w.heap[b]? = some (.cells cur e' (0, 0)))
    (a : Addr) (m c : Nat) (news : List Value) (hl : news.length = m * i.size) (hnews : ∀ j u, news[j]? = some u → w.cell? (a.add j) = some u) (h1 : ∀ u ∈ news, u.oneCell' = true)
    (hroom : sLen + m ≤ sCap) (hfit : sLen * i.size + news.length ≤ cur.size) :
    (Builtin.append_ #[t, t] ty #[.slice (some ⟨b, 0, none⟩) sLen sCap, .slice (some a) m c]).run P w =
      .ok (.slice (some ⟨b, 0, none⟩) (sLen + m) sCap) (w.setRow b (cur.toList.take (sLen * i.size) ++ news ++ cur.toList.drop (sLen * i.size + news.length)).toArray) := by
  have hf := run_firstCells_some (P := P) w i.size m a m c news hl hnews
  have hst := run_storeCells_at P b (sLen * i.size) e' news 0 cur w hg (by simpa using hfit) h1
  simp only [Nat.add_zero] at hst
  simp [Builtin.append_, run_underlying ht, sizeOf, typeInfo, hi, Builtin.lenOf, hroom, hf, Addr.add_lit, hst]

theorem run_app (t ty e e' : TypeId) (i : TypeInfo) (zv : Value) (ht : P.underlying t = some (.slice e)) (hi : P.info? e = some i) (hz : i.zero = some zv) (hzs : zv.cells.size = i.size) (_h0 : 0 < i.size)
    {bv : Value} {n m c : Nat} {us news : List Value} (hob : w.ownsRow 0 e' i.size bv n us) {a : Option Addr} (ha : 0 < m → a.isSome = true)
    (hl : news.length = m * i.size) (hnews : ∀ ad, a = some ad → ∀ (j : Nat) (u : Value), news[j]? = some u → w.cell? (ad.add j) = some u) (h1 : ∀ u ∈ news, u.oneCell' = true)
    (h63 : n + m ≤ maxLen) (hbytes : (n + m) * i.bytes ≤ 140737488355328) :
    ∃ v' w' e2, (Builtin.append_ #[t, t] ty #[bv, .slice a m c]).run P w = .ok v' w' ∧ AppRun w w' bv v' e' e2 i.size n m us news := by
  have hus := hob.1
  by_cases hm : m = 0
  · subst hm
    have hn : news = [] := List.eq_nil_of_length_eq_zero (by simpa using hl)
    subst hn
    refine ⟨bv, w, e', ?_, .same hob (fun _ _ => rfl) (Nat.le_refl _) rfl rfl rfl (by simpa using hob) (fun c hc => .inl hc) fun _ => rfl⟩
    obtain ⟨_, hh⟩ := hob
    rcases hh with ⟨rfl, rfl⟩ | ⟨b, cap, cur, rfl, _, hg, hle, _⟩
    · cases a <;> simp [Builtin.append_, run_underlying ht, sizeOf, typeInfo, hi, Builtin.lenOf, Builtin.firstCells, loadCells, loadCellsFrom]
    · cases a <;> simp [Builtin.append_, run_underlying ht, sizeOf, typeInfo, hi, Builtin.lenOf, Builtin.firstCells, loadCells, loadCellsFrom, hle, storeCells]
  · cases a with
    | none => simp at ha; omega
    | some ad =>
      replace hnews := hnews ad rfl
      have hsmall : n + m ≤ 9223372036854775807 := by simp only [maxLen] at h63; omega
      have grown : ∀ (old : Nat), old < n + m →
          (w.drew.alloc (.cells (us.toArray ++ news.toArray ++ Builtin.zeroCells zv.cells (grownCap w (n + m) old e - (n + m))) e)).ownsRow 0 e i.size (.slice (some ⟨w.heap.size, 0, none⟩) (n + m) (grownCap w (n + m) old e)) (n + m) (us ++ news) := by
        intro old ho
        have hge := grownCap_ge w (n + m) old e
        have hlen : (us ++ news).length = (n + m) * i.size := by rw [List.length_append, hus, hl, Nat.add_mul]
        refine ⟨hlen, .inr ⟨w.heap.size, _, _, rfl, Nat.zero_le _, alloc_new w.drew _, hge, grownCap_le_maxLen w (n + m) old e h63, ?_, ?_⟩⟩
        · simp only [Array.size_append, List.size_toArray, size_zeroCells, hzs, hus, hl, ← Nat.add_mul]
          congr 1
          omega
        · simp only [Array.toList_append, List.append_assoc]
          rw [← List.append_assoc, ← hlen]
          exact List.take_left
      have hob0 := hob
      obtain ⟨_, hh⟩ := hob
      rcases hh with ⟨rfl, rfl⟩ | ⟨b, cap, cur, rfl, _, hg, hle, hcm, hcs, htake⟩
      · have hx : us = [] := List.eq_nil_of_length_eq_zero (by simpa using hus)
        subst hx
        have hr := run_append_nil (P := P) w t ty e i zv ht hi hz ad m c news hl hnews (by omega) (by omega) (by simp only [Nat.zero_add] at hbytes; omega)
        have hgr := grown 0 (by omega)
        simp only [Nat.zero_add, List.nil_append, Array.empty_append] at hgr
        exact ⟨_, _, e, hr, .same hob0 (fun c hc => alloc_old w.drew _ c hc) (by simp) rfl rfl rfl (by simpa using hgr) (fun c hc => .inr (by simp [Value.ownBlock] at hc; omega)) (fun a => fz_alloc w.drew _ _ a)⟩
      · by_cases hroom : n + m ≤ cap
        · have hfit : n * i.size + news.length ≤ cur.size := by rw [hl, hcs, ← Nat.add_mul]; exact Nat.mul_le_mul_right _ hroom
          have hr := run_append_room' (P := P) (w := w) t ty e e' i ht hi b n cap cur hg ad m c news hl hnews h1 hroom hfit
          have hlen : (us ++ news).length = (n + m) * i.size := by rw [List.length_append, hus, hl, Nat.add_mul]
          have hsz : (cur.toList.take (n * i.size) ++ news ++ cur.toList.drop (n * i.size + news.length)).toArray.size = cur.size := by
            simp only [List.size_toArray, List.length_append, List.length_take, List.length_drop, Array.length_toList]
            omega
          have htk : (cur.toList.take (n * i.size) ++ news ++ cur.toList.drop (n * i.size + news.length)).take (n * i.size) = cur.toList.take (n * i.size) := by
            rw [List.append_assoc]
            exact List.take_left' (by simp; omega)
          refine ⟨_, _, e', hr, ⟨⟨hus, .inr ⟨b, cap, _, rfl, Nat.zero_le _, setRow_heap w b cur _ e' _ hg, hle, hcm, hsz.trans hcs, ?_⟩⟩, ⟨hlen, .inr ⟨b, cap, _, rfl, Nat.zero_le _, setRow_heap w b cur _ e' _ hg, hroom, hcm, hsz.trans hcs, ?_⟩⟩,
            ⟨rfl, rfl, rfl, by simp, fun k _ hk => setRow_other w b k _ (fun e => hk (by simp [Value.ownBlock, e])), fun a => fz_setRow w b _ a⟩, fun c hc => .inl hc, fun c hc => ?_⟩⟩
          · rw [← htake]; exact htk
          · rw [htake, ← hlen]
            exact List.take_left
          · simp only [Value.ownBlock, Option.some.injEq] at hc
            subst hc
            exact ⟨cur, _, hg, setRow_heap w b cur _ e' _ hg, hsz, htk⟩
        · have holds : ∀ (j : Nat) (u : Value), us[j]? = some u → w.cell? ((⟨b, 0, none⟩ : Addr).add j) = some u := hob0.cells (g := b) rfl
          have hr := run_append_grow (P := P) w t ty e i zv ht hi hz ⟨b, 0, none⟩ n cap us hus holds ad m c news hl hnews (by omega) (by omega) (growslice_fits (by omega) hbytes)
          have hgr := grown cap (by omega)
          exact ⟨_, _, e, hr, .same hob0 (fun c hc => alloc_old w.drew _ c hc) (by simp) rfl rfl rfl hgr (fun c hc => .inr (by simp [Value.ownBlock] at hc; omega)) (fun a => fz_alloc w.drew _ _ a)⟩
end
end Go.Own
