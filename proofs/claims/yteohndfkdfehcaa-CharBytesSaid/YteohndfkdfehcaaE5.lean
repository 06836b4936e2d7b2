import Derived.Test.YteohndfkdfehcaaE4
namespace Go.Own
open Go

section
variable {w : World} {I : BSet} {ρ : AV → Value → Prop} {v : Value} {F : BSet}
theorem R.inv_lit {a : Value} (h : R w I ρ (.lit a) v F) : v = a ∧ a.oneCell' = true := by
  cases h with
  | lit hv => exact ⟨rfl, hv⟩
  | ref hx => simp [AV.isRef] at hx
theorem R.inv_nils (h : R w I ρ .nils v F) : v = .slice none 0 0 := by
  cases h with
  | nils => rfl
  | ref hx => simp [AV.isRef] at hx
theorem R.inv_ptr {p : Place} {k : Nat} (h : R w I ρ (.ptr p k) v F) : ρ (.ptr p k) v := by
  cases h with
  | ref hx h => exact h
theorem R.inv_brw {z : Nat} {p : Place} {n : Nat} (h : R w I ρ (.brw z p n) v F) : ρ (.brw z p n) v := by
  cases h with
  | ref hx h => exact h
theorem R.inv_sub {z : Nat} {p : Place} {lo n : Nat} (h : R w I ρ (.sub z p lo n) v F) : ρ (.sub z p lo n) v := by
  cases h with
  | ref hx h => exact h
theorem R.inv_imm {z n : Nat} {cs : List AV} (h : R w I ρ (.imm z n cs) v F) : ∃ a cap, v = .slice a n cap ∧ n ≤ cap ∧ cs.length = n * z ∧
    (cs ≠ [] ∨ 0 < n → ∃ (ad : Addr) (us : Nat → Value), a = some ad ∧ I ad.block ∧ ad.spot = none ∧ (∀ (k : Nat) (x : AV), cs[k]? = some x → (us k).oneCell' = true) ∧ (∀ (k : Nat) (x : AV), cs[k]? = some x → w.cell? ⟨ad.block, ad.off + k, none⟩ = some (us k)) ∧ ∀ (k : Nat) (x : AV), cs[k]? = some x → R w I ρ x (us k) E0) := by
  cases h with
  | @imm0 _ cap a => exact ⟨a, cap, rfl, Nat.zero_le _, by simp, fun h => by simp at h⟩
  | @imm _ _ cap _ ad us _ hF hcap hI hs hl h1 hc hr => exact ⟨_, cap, rfl, hcap, hl, fun _ => ⟨ad, us, rfl, hI, hs, h1, hc, hr⟩⟩
  | ref hx => simp [AV.isRef] at hx
theorem R.inv_iptr {cs : List AV} (h : R w I ρ (.iptr cs) v F) : ∃ (ad : Addr) (us : Nat → Value), v = .pointer (some ad) ∧ I ad.block ∧ ad.spot = none ∧ (∀ (k : Nat) (x : AV), cs[k]? = some x → (us k).oneCell' = true) ∧ (∀ (k : Nat) (x : AV), cs[k]? = some x → w.cell? ⟨ad.block, ad.off + k, none⟩ = some (us k)) ∧ ∀ (k : Nat) (x : AV), cs[k]? = some x → R w I ρ x (us k) E0 := by
  cases h with
  | @iptr _ ad us _ hF hI hs h1 hc hr => exact ⟨ad, us, rfl, hI, hs, h1, hc, hr⟩
  | ref hx => simp [AV.isRef] at hx
theorem R.inv_agg {cs : List AV} (h : R w I ρ (.agg cs) v F) (hF : ∀ c, ¬ F c) : ∃ vs : Array Value, v = .agg vs ∧ cs.length = vs.size ∧ (∀ (k : Nat) (u : Value), vs[k]? = some u → u.oneCell' = true) ∧ ∀ (k : Nat) (x : AV) (u : Value), cs[k]? = some x → vs[k]? = some u → R w I ρ x u E0 := by
  cases h with
  | @agg _ vs Fs _ hl h1 hr hd hF' => exact ⟨vs, rfl, hl, h1, fun k x u hx hu => (hr k x u hx hu).empty fun c hc => hF c ((hF' c).2 ⟨k, (List.getElem?_eq_some_iff.1 hx).1, hc⟩)⟩
  | ref hx => simp [AV.isRef] at hx
theorem R.inv_tup {cs : List AV} (h : R w I ρ (.tup cs) v F) (hF : ∀ c, ¬ F c) : ∃ vs : Array Value, v = .tuple vs ∧ cs.length = vs.size ∧ ∀ (k : Nat) (x : AV) (u : Value), cs[k]? = some x → vs[k]? = some u → R w I ρ x u E0 := by
  cases h with
  | @tup _ vs Fs _ hl hr hd hF' => exact ⟨vs, rfl, hl, fun k x u hx hu => (hr k x u hx hu).empty fun c hc => hF c ((hF' c).2 ⟨k, (List.getElem?_eq_some_iff.1 hx).1, hc⟩)⟩
  | ref hx => simp [AV.isRef] at hx
/-- A node is a row or a block: its parts lie in cells. -/
theorem R.node {y : AV} {z n : Nat} {cs : List AV} (h : R w I ρ y v F) (hy : y = .own z n cs ∨ y = .obj cs) {k : Nat} {x : AV} (hk : cs[k]? = some x) :
    ∃ b u, addrOf v = some ⟨b, 0, none⟩ ∧ w.cell? ⟨b, k, none⟩ = some u ∧ child w v k = some u ∧ u.oneCell' = true ∧ ∃ Fk, R w I ρ x u Fk := by
  rcases hy with rfl | rfl
  · cases h with
    | @own _ _ _ _ e us Fs _ ho hl h1 hr hd hb hF =>
      have hlt : k < cs.length := (List.getElem?_eq_some_iff.1 hk).1
      have hu : us[k]? = some us[k] := List.getElem?_eq_getElem (hl ▸ hlt)
      have hch := ownsRow_child ho hu
      obtain ⟨hus, h2⟩ := ho
      rcases h2 with ⟨rfl, rfl⟩ | ⟨b, cap, cur, rfl, hg, hh, rest⟩
      · simp at hus; rw [hus] at hl; simp at hl; subst hl; simp at hlt
      · exact ⟨b, _, rfl, by simpa [child] using hch, hch, h1 k _ hu, Fs k, hr k x _ hk hu⟩
    | ref hx => simp [AV.isRef] at hx
  · cases h with
    | @obj _ b e arr Fs _ ho hl h1 hr hd hb hF =>
      have hlt : k < cs.length := (List.getElem?_eq_some_iff.1 hk).1
      have hu : arr[k]? = some arr[k] := Array.getElem?_eq_getElem (hl ▸ hlt)
      exact ⟨b, _, rfl, by simp [World.cell?, ho, hu], by simp [child, World.cell?, ho, hu], h1 k _ hu, Fs k, hr k x _ hk hu⟩
    | ref hx => simp [AV.isRef] at hx
end

/-- A bound of a slice expression: none, or a number. -/
def Bnd (g : Gst) (d : Nat) : Option Operand → Nat → Prop
  | none, j => j = d
  | some o, j => ∃ k, opd g o = some (.lit (.int k (j : Int)))

/-- Operations that leave the world alone. -/
inductive PS1 (P : Program) (g : Gst) : Op → TypeId → AV → Prop
  | move {x : Operand} {ty : TypeId} {y : AV} (hx : opd g x = some y) : PS1 P g (.move x) ty y
  | assign {x : Operand} {ty : TypeId} {y : AV} (hx : opd g x = some y) : PS1 P g (.assign x) ty y
  | pick {c a b : Operand} {ty : TypeId} {t : Bool} {r : AV} (hc : opd g c = some (.lit (.bool t))) (hr : opd g (if t then a else b) = some r) : PS1 P g (.pick c a b) ty r
  | nilP {x : Operand} {ty : TypeId} {p : Place} {k : Nat} (hx : opd g x = some (.ptr p k)) : PS1 P g (.nilCheck x) ty (.ptr p k)
  | nilI {x : Operand} {ty : TypeId} {cs : List AV} (hx : opd g x = some (.iptr cs)) : PS1 P g (.nilCheck x) ty (.iptr cs)
  | fieldP {x : Operand} {ty s t : TypeId} {f off : Nat} {p : Place} {k : Nat} (hx : opd g x = some (.ptr p k)) (hf : fldT P s f off t = true) (hok : RefOk g (.ptr p (k + off))) : PS1 P g (.fieldAddr s x f) ty (.ptr p (k + off))
  | fieldI {x : Operand} {ty s t : TypeId} {f off : Nat} {cs : List AV} (hx : opd g x = some (.iptr cs)) (hf : fldT P s f off t = true) : PS1 P g (.fieldAddr s x f) ty (.iptr (cs.drop off))
  | field1 {x : Operand} {ty s t : TypeId} {f off : Nat} {cs : List AV} {y : AV} (hx : opd g x = some (.agg cs)) (hf : fldT P s f off t = true) (ht : cellT P t = true) (hy : cs[off]? = some y) : PS1 P g (.field s x f) ty y
  | fieldN {x : Operand} {ty s t : TypeId} {f off k : Nat} {cs : List AV} (hx : opd g x = some (.agg cs)) (hf : fldT P s f off t = true) (ht : aggT P t k = true) (hk : off + k ≤ cs.length) : PS1 P g (.field s x f) ty (.agg ((cs.drop off).take k))
  | idxImm {x i : Operand} {ty t e : TypeId} {z n : Nat} {cs : List AV} {kd : IntKind} {j : Nat} (hx : opd g x = some (.imm z n cs)) (hi : opd g i = some (.lit (.int kd (j : Int)))) (ht : slT P t e z = true) (hj : j < n) : PS1 P g (.indexAddr t x i) ty (.iptr (cs.drop (j * z)))
  | idxBrw {x i : Operand} {ty t e : TypeId} {z n : Nat} {p : Place} {kd : IntKind} {j : Nat} (hx : opd g x = some (.brw z p n)) (hi : opd g i = some (.lit (.int kd (j : Int)))) (ht : slT P t e z = true) (hj : j < n) (hok : RefOk g (.ptr p (j * z))) : PS1 P g (.indexAddr t x i) ty (.ptr p (j * z))
  | idxSub {x i : Operand} {ty t e : TypeId} {z lo n : Nat} {p : Place} {kd : IntKind} {j : Nat} (hx : opd g x = some (.sub z p lo n)) (hi : opd g i = some (.lit (.int kd (j : Int)))) (ht : slT P t e z = true) (hj : j < n) (hok : RefOk g (.ptr p ((lo + j) * z))) : PS1 P g (.indexAddr t x i) ty (.ptr p ((lo + j) * z))
  | idxArrP {x i : Operand} {ty t e : TypeId} {n z k : Nat} {p : Place} {kd : IntKind} {j : Nat} (hx : opd g x = some (.ptr p k)) (hi : opd g i = some (.lit (.int kd (j : Int)))) (ht : arrT P t e n z = true) (hj : j < n) (hok : RefOk g (.ptr p (k + j * z))) : PS1 P g (.indexAddr t x i) ty (.ptr p (k + j * z))
  | idxArrI {x i : Operand} {ty t e : TypeId} {n z : Nat} {cs : List AV} {kd : IntKind} {j : Nat} (hx : opd g x = some (.iptr cs)) (hi : opd g i = some (.lit (.int kd (j : Int)))) (ht : arrT P t e n z = true) (hj : j < n) : PS1 P g (.indexAddr t x i) ty (.iptr (cs.drop (j * z)))
  | loadI1 {x : Operand} {ty t : TypeId} {c : AV} {cs : List AV} (hx : opd g x = some (.iptr (c :: cs))) (ht : cellT P t = true) : PS1 P g (.load t x) ty c
  | loadIN {x : Operand} {ty t : TypeId} {k : Nat} {cs : List AV} (hx : opd g x = some (.iptr cs)) (ht : aggT P t k = true) (hk : k ≤ cs.length) : PS1 P g (.load t x) ty (.agg (cs.take k))
  | load1 {x : Operand} {ty t : TypeId} {p : Place} {k : Nat} {y : AV} (hx : opd g x = some (.ptr p k)) (ht : cellT P t = true) (hy : atP g (p.push k) = some y) : PS1 P g (.load t x) ty (refIn 0 (p.push k) y)
  | loadN {x : Operand} {ty t : TypeId} {p : Place} {k m z n : Nat} {y : AV} {cs : List AV} (hx : opd g x = some (.ptr p k)) (ht : aggT P t m = true) (hy : atP g p = some y) (hc : y = .own z n cs ∨ y = .obj cs) (hm : k + m ≤ cs.length) : PS1 P g (.load t x) ty (.agg (((cs.drop k).take m).mapIdx fun i x => refIn 0 (p.push (k + i)) x))
  | idxStr {x i : Operand} {ty t : TypeId} {s : ByteArray} {kd : IntKind} {j : Nat} {b : UInt8} (hx : opd g x = some (.lit (.string s))) (hi : opd g i = some (.lit (.int kd (j : Int)))) (ht : strT P t = true) (hb : s[j]? = some b) : PS1 P g (.index t x i) ty (.lit (.int .u8 b.toNat))
  | bin {op : BinOp} {x y : Operand} {ty t t2 : TypeId} {a b v : Value} (hx : opd g x = some (.lit a)) (hy : opd g y = some (.lit b)) (hv : v.oneCell' = true) (hr : ∀ w, (do eqGuard op t x y a b; binOp op t a b : Sem Value).run P w = .ok v w) : PS1 P g (.binOp op t x y t2) ty (.lit v)
  | un {op : UnOp} {x : Operand} {ty t : TypeId} {a v : Value} (hx : opd g x = some (.lit a)) (hv : v.oneCell' = true) (hr : ∀ w, (Op.unary op a).run P w = .ok v w) : PS1 P g (.unOp op t x) ty (.lit v)
  | conv {x : Operand} {ty s d : TypeId} {a v : Value} (hx : opd g x = some (.lit a)) (hv : v.oneCell' = true) (hr : ∀ w, (convert s d a).run P w = .ok v w) : PS1 P g (.convert s d x) ty (.lit v)
  | convB {x : Operand} {ty s d : TypeId} {n N : Nat} {p : Place} {cs : List AV} {xs : List Int} (hx : opd g x = some (.brw 1 p n)) (hp : atP g p = some (.own 1 N cs)) (hn : n ≤ N) (hcs : cs.take n = xs.map fun b => .lit (.int .u8 b)) (ht : bytT P s d = true) : PS1 P g (.convert s d x) ty (.lit (.string (strOfNums xs)))
  | convI {x : Operand} {ty s d : TypeId} {n : Nat} {xs : List Int} (hx : opd g x = some (.imm 1 n (xs.map fun b => .lit (.int .u8 b)))) (ht : bytT P s d = true) : PS1 P g (.convert s d x) ty (.lit (.string (strOfNums xs)))
  | extF {xs : Array Operand} {tys : Array TypeId} {ty : TypeId} {f : FuncId} {vs : List Value} {v : Value} (hx : xs.toList.map (opd g) = vs.map fun v => some (.lit v)) (hv : v.oneCell' = true)
      (hr : ∀ w, (callFunc f vs.toArray).run P w = .ok (.value v) w) : PS1 P g (.call { callee := .value (.func f), args := xs, argTypes := tys }) ty (.lit v)
  | extr {x : Operand} {ty : TypeId} {i : Nat} {cs : List AV} {y : AV} (hx : opd g x = some (.tup cs)) (hy : cs[i]? = some y) : PS1 P g (.extract x i) ty y
  | sliceImm {x : Operand} {lo hi : Option Operand} {ty t e : TypeId} {z n l h : Nat} {cs : List AV} (hx : opd g x = some (.imm z n cs)) (hl : Bnd g 0 lo l) (hh : Bnd g n hi h) (ht : slT P t e z = true) (hlh : l ≤ h) (hn : h ≤ n) : PS1 P g (.slice t x lo hi none) ty (.imm z (h - l) ((cs.drop (l * z)).take ((h - l) * z)))
  | sliceBrw0 {x : Operand} {lo hi : Option Operand} {ty t e : TypeId} {z n h : Nat} {p : Place} (hx : opd g x = some (.brw z p n)) (hl : Bnd g 0 lo 0) (hh : Bnd g n hi h) (ht : slT P t e z = true) (hn : h ≤ n) (hok : RefOk g (.brw z p h)) : PS1 P g (.slice t x lo hi none) ty (.brw z p h)
  | sliceBrw {x : Operand} {lo hi : Option Operand} {ty t e : TypeId} {z n l h : Nat} {p : Place} (hx : opd g x = some (.brw z p n)) (hl : Bnd g 0 lo l) (hh : Bnd g n hi h) (ht : slT P t e z = true) (hlh : l ≤ h) (hn : h ≤ n) (hok : RefOk g (.sub z p l (h - l))) : PS1 P g (.slice t x lo hi none) ty (.sub z p l (h - l))
  | sliceStr {x : Operand} {lo hi : Option Operand} {ty t : TypeId} {l h : Nat} {s : ByteArray} (hx : opd g x = some (.lit (.string s))) (hl : Bnd g 0 lo l) (hh : Bnd g s.size hi h) (ht : strT P t = true) (hlh : l ≤ h) (hn : h ≤ s.size) : PS1 P g (.slice t x lo hi none) ty (.lit (.string (s.extract l h)))
  | lenImm {x : Operand} {ty t e : TypeId} {z z' n : Nat} {cs : List AV} (hx : opd g x = some (.imm z n cs)) (ht : slT P t e z' = true) : PS1 P g (.call { callee := .builtin .len, args := #[x], argTypes := #[t] }) ty (.lit (.int .i64 n))
  | lenBrw {x : Operand} {ty t e : TypeId} {z z' n : Nat} {p : Place} (hx : opd g x = some (.brw z p n)) (ht : slT P t e z' = true) : PS1 P g (.call { callee := .builtin .len, args := #[x], argTypes := #[t] }) ty (.lit (.int .i64 n))
  | lenSub {x : Operand} {ty t e : TypeId} {z z' lo n : Nat} {p : Place} (hx : opd g x = some (.sub z p lo n)) (ht : slT P t e z' = true) : PS1 P g (.call { callee := .builtin .len, args := #[x], argTypes := #[t] }) ty (.lit (.int .i64 n))
  | lenNils {x : Operand} {ty t e : TypeId} {z' : Nat} (hx : opd g x = some .nils) (ht : slT P t e z' = true) : PS1 P g (.call { callee := .builtin .len, args := #[x], argTypes := #[t] }) ty (.lit (.int .i64 0))
  | lits {b : Builtin} {xs : Array Operand} {tys : Array TypeId} {ty : TypeId} {vs : List Value} {v : Value} (hx : xs.toList.map (opd g) = vs.map fun v => some (.lit v)) (hv : v.oneCell' = true)
      (hr : ∀ w (cs : Array Bool), (builtin b tys ty cs vs.toArray).run P w = .ok (.value v) w) : PS1 P g (.call { callee := .builtin b, args := xs, argTypes := tys }) ty (.lit v)
end Go.Own
