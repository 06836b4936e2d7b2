import Derived.Test.YteohndfkdfehcaaE14
namespace Go.Own
open Go

def argG (args : List AV) : Gst := fun t => args[t]?
def outG (outs : List (Option AV)) (res : AV) : Gst := fun t => if t = outs.length then some res else (outs[t]?).join

/-- From one state to a later one: 'U', 'U'': what is owned. -/
structure St (w : World) (I U : BSet) (w' : World) (I' U' : BSet) : Prop where
  fr : Fr w w' U
  more : ∀ c, I c → I' c
  new : ∀ c, I' c → I c ∨ U c ∨ w.heap.size ≤ c
  own : ∀ c, U' c → U c ∨ w.heap.size ≤ c

/-- What a call does: 'outs': what the arguments that are lent (rows and blocks of the caller's own) hold behind it; 'res': what it hands back. -/
def Con (P : Program) (f : FuncId) (args : List AV) (outs : List (Option AV)) (res : AV) : Prop :=
  outs.length = args.length ∧ ∀ (w : World) (I : BSet) (vs : List Value) (Fs : Nat → BSet), vs.length = args.length → SR w I vs.toArray (argG args) Fs →
    Calls P f vs.toArray w fun e w' => ∃ v I' Fs', e = .returned v ∧ SR w' I' (vs ++ [v]).toArray (outG outs res) Fs' ∧ St w I (fun c => ∃ t, Fs t c) w' I' (fun c => ∃ t, Fs' t c)

def callT (P : Program) (f : FuncId) : Bool :=
  match P.funcs[f]? with
  | some fn => fn.name != "runtime.NumGoroutine" && fn.body.isSome
  | none => false

/-- A call of which the caller wants nothing but what it hands back. -/
inductive PC (P : Program) (g : Gst) : Op → AV → Prop
  | plain {c : Operand} {xs : Array Operand} {tys : Array TypeId} {f : FuncId} {first caps ys : List AV} {res : AV} (hc : opd g c = some (.clo (.func f) first caps)) (hx : opds g xs.toList = some ys) (hf : callT P f = true)
      (hn : ∀ y ∈ first ++ ys ++ caps, NR y) (hcon : Con P f (first ++ ys ++ caps) ((first ++ ys ++ caps).map fun _ => none) res) (hr : NR res) : PC P g (.call { callee := .value c, args := xs, argTypes := tys }) res
  | lent {c : Operand} {xs : Array Operand} {tys : Array TypeId} {f : FuncId} {first caps ys args : List AV} {res : AV} (hc : opd g c = some (.clo (.func f) first caps)) (hx : opds g xs.toList = some ys) (hf : callT P f = true)
      (hl : args.length = (first ++ ys ++ caps).length) (hv : ∀ (k : Nat) (x y : AV), (first ++ ys ++ caps)[k]? = some x → args[k]? = some y → View g x y) (hcon : Con P f args (args.map fun _ => none) res) (hr : OO res) :
      PC P g (.call { callee := .value c, args := xs, argTypes := tys }) res

section
variable {P : Program} {w : World} {I : BSet} {T : Array Value} {g : Gst} {Fs : Nat → BSet}

theorem callT_run {f : FuncId} (h : callT P f = true) (args : Array Value) : (callFunc f args).run P w = .ok (.enter f args) w := by
  unfold callT at h
  cases hf : P.funcs[f]? with
  | none => simp [hf] at h
  | some fn =>
    simp [hf] at h
    obtain ⟨h1, h2⟩ := h
    cases hb : fn.body with
    | none => simp [hb] at h2
    | some c => simp [callFunc, hf, h1, hb]

/-- The arguments' values, and that they stand for what they should. -/
theorem callArgs (h : SR w I T g Fs) {a : Act} (ha : a.tmps = T) {c : Operand} {xs : Array Operand} {f : FuncId} {first caps ys : List AV} (hc : opd g c = some (.clo (.func f) first caps)) (hx : opds g xs.toList = some ys) :
    ∃ v1 v2 : Array Value, a.eval c = .func (.func f) v1 v2 ∧ (first ++ ys ++ caps).length = (v1 ++ xs.map a.eval ++ v2).toList.length ∧
      ∀ (k : Nat) (x : AV) (u : Value), (first ++ ys ++ caps)[k]? = some x → (v1 ++ xs.map a.eval ++ v2).toList[k]? = some u → R w I (RG w T g) x u E0 := by
  have hRc := opd_sound h hc ha
  obtain ⟨hl, hr⟩ := opds_sound h ha hx
  generalize hcv : a.eval c = vc at hRc
  cases hRc with
  | ref hx => simp [AV.isRef] at hx
  | @clo _ _ _ v1 v2 _ _ h1 h2 hr1 hr2 =>
    have hlen : xs.size = ys.length := by rw [← Array.length_toList, hl]
    refine ⟨v1, v2, rfl, by simp [h1, h2, hlen], fun k x u hxk huk => ?_⟩
    simp only [Array.toList_append, Array.toList_map] at huk
    by_cases hk1 : k < first.length
    · rw [List.append_assoc, List.getElem?_append_left hk1] at hxk
      rw [List.append_assoc, List.getElem?_append_left (by simp; omega)] at huk
      exact hr1 k x u hxk (by simpa using huk)
    · rw [List.append_assoc, List.getElem?_append_right (by omega)] at hxk
      rw [List.append_assoc, List.getElem?_append_right (by simp; omega)] at huk
      simp only [Array.length_toList, ← h1] at huk
      by_cases hk2 : k - first.length < ys.length
      · rw [List.getElem?_append_left hk2] at hxk
        rw [List.getElem?_append_left (by simp; omega), List.getElem?_map] at huk
        cases hxo : xs.toList[k - first.length]? with
        | none => rw [hxo] at huk; cases huk
        | some o => rw [hxo] at huk; cases huk; exact hr _ x o hxk hxo
      · rw [List.getElem?_append_right (by omega)] at hxk
        rw [List.getElem?_append_right (by simp; omega)] at huk
        simp only [List.length_map, Array.length_toList] at huk
        rw [hlen] at huk
        exact hr2 _ x u hxk (by simpa using huk)

/-- Arguments that own nothing. -/
theorem SR.args {I' : BSet} (h : SR w I T g Fs) (hI : ∀ c, I' c → I c ∨ ∃ t, Fs t c) {args : List AV} {vs : List Value} (hl : args.length = vs.length)
    (hr : ∀ (ρ' : AV → Value → Prop) (k : Nat) (x : AV) (u : Value), args[k]? = some x → vs[k]? = some u → R w I' ρ' x u E0) : SR w I' vs.toArray (argG args) (fun _ => E0) := by
  refine ⟨fun t x hx => ?_, fun _ _ _ h => h, fun _ _ _ h => h.elim, fun _ _ h => h.elim, fun c hc => ?_, fun t t' z p n m new z' n' m' new' h1 h2 => ?_⟩
  · have ht : t < args.length := (List.getElem?_eq_some_iff.1 hx).1
    have hu : vs[t]? = some vs[t] := List.getElem?_eq_getElem (hl ▸ ht)
    exact ⟨vs[t], by rw [List.getElem?_toArray]; exact hu, .tree (hr _ t x _ hx hu)⟩
  · rcases hI c hc with h' | ⟨t, h'⟩
    · exact h.lt c h'
    · exact h.ltF t c h'
  · have ht : t < args.length := (List.getElem?_eq_some_iff.1 h1).1
    exact (hr (fun _ _ => False) t _ _ h1 (List.getElem?_eq_getElem (hl ▸ ht))).notPend.elim

theorem PC.sound (h : SR w I T g Fs) {a : Act} (ha : a.tmps = T) {o : Oper} {xv : AV} (hp : PC P g o.op xv) {K : Act → World → Prop} {Q : Exit → Act → World → Prop}
    (hK : ∀ v w', Gives w I T g Fs xv v w' → K (a.put o.dst v) w') : o.wp P a w K Q := by
  obtain ⟨dst, op, ty, pos, after, guard⟩ := o
  simp only at hp hK
  have noPend : NR xv → ∀ z p n m new, xv = .pend z p n m new → ∀ t z' n' m' new', g t ≠ some (.pend z' p n' m' new') := by
    rintro hn z p n m new rfl
    cases hn
  have last : ∀ {args : List AV} {res : AV} {v : Value} {vs : List Value} {w' : World} {I' : BSet} {Fs' : Nat → BSet}, vs.length = args.length → SR w' I' (vs ++ [v]).toArray (outG (args.map fun _ => none) res) Fs' → RT w' I' (RG w' (vs ++ [v]).toArray (outG (args.map fun _ => none) res)) res v (Fs' args.length) ∧ ∀ t, t ≠ args.length → ∀ c, ¬ Fs' t c := by
    intro args res v vs w' I' Fs' hl hS
    constructor
    · obtain ⟨u, hu, hR⟩ := hS.rel args.length res (by simp [outG])
      have : u = v := by
        rw [← hl] at hu
        simpa using hu.symm
      subst this; exact hR
    · intro t ht c hc
      refine hS.non t ?_ c hc
      have ht' : t ≠ (args.map fun _ => (none : Option AV)).length := by simpa using ht
      simp only [outG, if_neg ht', List.getElem?_map]
      cases args[t]? <;> rfl
  cases hp with
  | @plain c xs tys f first caps ys _ hc hx hf hn hcon hr =>
    obtain ⟨v1, v2, hcv, hl, hargs⟩ := callArgs h ha hc hx
    have hrun : (execOp a.eval { dst := dst, op := .call { callee := .value c, args := xs, argTypes := tys }, type := ty, pos := pos, after := after, guard := guard }).run P w = .ok (.enter f (v1 ++ xs.map a.eval ++ v2)) w := by
      simp [execOp, resolve, Deferred.ofValue, hcv, invoke, callT_run hf]
    have hS := h.args (I' := I) (fun c hc => .inl hc) hl fun ρ' k x u hx hu => (hargs k x u hx hu).nr (hn x (List.mem_of_getElem? hx))
    have hcall := hcon.2 w I (v1 ++ xs.map a.eval ++ v2).toList _ hl.symm hS
    unfold Oper.wp Oper.upon
    simp only [hrun]
    rw [Array.toArray_toList] at hcall
    refine Calls.mono hcall ?_
    rintro e w' ⟨v, I', Fs', rfl, hS', hst⟩
    obtain ⟨hres, hno⟩ := last hl.symm hS'
    have hfr : Fr w w' (fun _ => False) := hst.fr.mono fun b _ ⟨_, hb⟩ => hb
    refine hK v w' ⟨Fs' (first ++ ys ++ caps).length, I', ?_, ?_, ?_, ?_, hst.more, ?_, hfr.mono fun _ _ h => h.elim, noPend hr⟩
    · have := h.world (w' := w') (fun t c hc => hfr.block c (h.ltF t c hc) (fun h => h)) (fun c hc => hfr.block c (h.lt c hc) fun h => h) hfr.size
      refine ⟨fun t x hx => ?_, this.non, this.dis, fun t c hc hi => ?_, hS'.lt, this.pok⟩
      · obtain ⟨v, hv, hR⟩ := this.rel t x hx
        exact ⟨v, hv, hR.frame (fun _ _ => rfl) hst.more (fun _ _ h => h) (fun _ _ _ _ _ _ _ => rfl) fun _ _ => rfl⟩
      · rcases hst.new c hi with h' | ⟨_, h'⟩ | h'
        · exact h.imm t c hc h'
        · exact h'
        · have := h.ltF t c hc; omega
    · exact .tree ((hres.isTree (by rintro z p n m new rfl; cases hr)).nr hr)
    · intro t c hc hf'
      rcases hst.own c ⟨_, hc⟩ with ⟨_, h'⟩ | h'
      · exact h'
      · have := h.ltF t c hf'; omega
    · intro c hc
      rcases hst.own c ⟨_, hc⟩ with ⟨_, h'⟩ | h'
      · exact h'.elim
      · exact ⟨h', hS'.imm _ c hc⟩
    · intro c hc
      rcases hst.new c hc with h' | ⟨_, h'⟩ | h'
      · exact .inl h'
      · exact h'.elim
      · exact .inr h'
  | @lent c xs tys f first caps ys args _ hc hx hf hl0 hv hcon hr =>
    obtain ⟨v1, v2, hcv, hl, hargs⟩ := callArgs h ha hc hx
    have hrun : (execOp a.eval { dst := dst, op := .call { callee := .value c, args := xs, argTypes := tys }, type := ty, pos := pos, after := after, guard := guard }).run P w = .ok (.enter f (v1 ++ xs.map a.eval ++ v2)) w := by
      simp [execOp, resolve, Deferred.ofValue, hcv, invoke, callT_run hf]
    have hl' : args.length = (v1 ++ xs.map a.eval ++ v2).toList.length := by rw [hl0, hl]
    have hS := h.args (I' := fun c => I c ∨ ∃ t, Fs t c) (fun c hc => hc) hl' fun ρ' k x u hx hu => by
      have hk : k < (first ++ ys ++ caps).length := by rw [← hl0]; exact (List.getElem?_eq_some_iff.1 hx).1
      have hx0 := List.getElem?_eq_getElem hk
      exact (hv k _ x hx0 hx).sound h (hargs k _ u hx0 hu) (fun _ h => h.elim) ρ'
    have hcall := hcon.2 w _ (v1 ++ xs.map a.eval ++ v2).toList _ hl'.symm hS
    unfold Oper.wp Oper.upon
    simp only [hrun]
    rw [Array.toArray_toList] at hcall
    refine Calls.mono hcall ?_
    rintro e w' ⟨v, I', Fs', rfl, hS', hst⟩
    obtain ⟨hres, hno⟩ := last hl'.symm hS'
    have hfr : Fr w w' (fun _ => False) := hst.fr.mono fun b _ ⟨_, hb⟩ => hb
    refine hK v w' ⟨Fs' args.length, I, ?_, ?_, ?_, ?_, fun _ h => h, fun _ h => .inl h, hfr.mono fun _ _ h => h.elim, noPend hr.nr⟩
    · exact h.world (w' := w') (fun t c hc => hfr.block c (h.ltF t c hc) (fun h => h)) (fun c hc => hfr.block c (h.lt c hc) fun h => h) hfr.size
    · exact .tree ((hres.isTree (by rintro z p n m new rfl; cases hr)).oo hr)
    · intro t c hc hf'
      rcases hst.own c ⟨_, hc⟩ with ⟨_, h'⟩ | h'
      · exact h'
      · have := h.ltF t c hf'; omega
    · intro c hc
      rcases hst.own c ⟨_, hc⟩ with ⟨_, h'⟩ | h'
      · exact h'.elim
      · exact ⟨h', fun hi => by have := h.lt c hi; omega⟩
end
end Go.Own
