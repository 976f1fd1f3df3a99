/- Lists whose elements hold slices: what represents them; it holds of every program. -/
import Derived.Test.YtllfmfoahloldaaGreatHL10
set_option linter.unusedVariables false
set_option linter.unusedSimpArgs false
set_option linter.unusedSectionVars false
namespace Go.HL
open Go.RowKit
section
variable {E : Type}
/-- Cells that represent a list, element by element. -/
def NL (rel : E → List Value → Prop) : List E → List Value → Prop
  | [], cs => cs = []
  | x :: xs, cs => ∃ a b, cs = a ++ b ∧ rel x a ∧ NL rel xs b
variable {rel rel' : E → List Value → Prop} {sz : Nat}
theorem NL.nil : NL rel [] [] := rfl
theorem NL.mono (h : ∀ x v, rel x v → rel' x v) : ∀ {xs : List E} {cs : List Value}, NL rel xs cs → NL rel' xs cs
  | [], _, k => k
  | x :: xs, _, ⟨a, b, e, h1, h2⟩ => ⟨a, b, e, h x a h1, NL.mono h h2⟩
theorem NL.one {x : E} {v : List Value} (h : rel x v) : NL rel [x] v := ⟨v, [], (List.append_nil v).symm, h, rfl⟩
theorem NL.append : ∀ {xs ys : List E} {a b : List Value}, NL rel xs a → NL rel ys b → NL rel (xs ++ ys) (a ++ b)
  | [], _, _, _, h, k => by cases h; exact k
  | x :: xs, _, _, _, ⟨a, b, e, h1, h2⟩, k => ⟨a, _, by rw [e, List.append_assoc], h1, h2.append k⟩
theorem NL.len (hz : ∀ x v, rel x v → v.length = sz) : ∀ {xs : List E} {cs : List Value}, NL rel xs cs → cs.length = xs.length * sz
  | [], _, h => by cases h; simp
  | x :: xs, _, ⟨a, b, e, h1, h2⟩ => by
    rw [e, List.length_append, hz x a h1, NL.len hz h2, List.length_cons, Nat.succ_mul]; omega
theorem NL.at_nat (hz : ∀ x v, rel x v → v.length = sz) : ∀ {xs : List E} {cs : List Value} (i : Nat) (hi : i < xs.length), NL rel xs cs → rel xs[i] ((cs.drop (i * sz)).take sz)
  | [], _, i, hi, _ => by simp at hi
  | x :: xs, _, 0, _, ⟨a, b, e, h1, h2⟩ => by
    have := hz x a h1
    subst e
    simp only [Nat.zero_mul, List.drop_zero, List.getElem_cons_zero]
    rw [← this, List.take_left]; exact h1
  | x :: xs, _, i + 1, hi, ⟨a, b, e, h1, h2⟩ => by
    have := hz x a h1
    subst e
    have e1 : (i + 1) * sz = a.length + i * sz := by rw [Nat.succ_mul, this]; omega
    have e2 : List.drop ((i + 1) * sz) (a ++ b) = List.drop (i * sz) b := by rw [e1, ← List.drop_drop, List.drop_left]
    rw [e2]
    simpa using NL.at_nat hz i (by simpa using hi) h2
theorem NL.at [Inhabited E] (hz : ∀ x v, rel x v → v.length = sz) {xs : List E} {cs : List Value} (h : NL rel xs cs) {i : Int} (h0 : 0 ≤ i) (h1 : i < (xs.length : Int)) : ∃ vs, (cs.drop (i.toNat * sz)).take sz = vs ∧ rel (at' xs i) vs := by
  have hi : i.toNat < xs.length := by omega
  have : at' xs i = xs[i.toNat] := by simp [at', hi]
  rw [this]
  exact ⟨_, rfl, h.at_nat hz i.toNat hi⟩
theorem cells_part {cs vs : List Value} {p sz : Nat} (h : (cs.drop p).take sz = vs) (off m : Nat) (hm : off + m ≤ sz) : (cs.drop (p + off)).take m = (vs.drop off).take m := by
  subst h
  rw [← List.drop_drop, List.drop_take, List.take_take]
  congr 1; omega
theorem NL.set_nat (hz : ∀ x v, rel x v → v.length = sz) {y : E} {v : List Value} (hy : rel y v) : ∀ {xs : List E} {cs : List Value} (i : Nat) (hi : i < xs.length), NL rel xs cs → NL rel (xs.set i y) (cs.take (i * sz) ++ v ++ cs.drop (i * sz + sz))
  | [], _, i, hi, _ => by simp at hi
  | x :: xs, _, 0, _, ⟨a, b, e, h1, h2⟩ => by
    have := hz x a h1
    subst e
    refine ⟨v, b, ?_, hy, h2⟩
    simp only [Nat.zero_mul, List.take_zero, List.nil_append, Nat.zero_add]
    rw [← this, List.drop_left]
  | x :: xs, _, i + 1, hi, ⟨a, b, e, h1, h2⟩ => by
    have := hz x a h1
    subst e
    refine ⟨a, _, ?_, h1, NL.set_nat hz hy i (by simpa using hi) h2⟩
    rw [Nat.succ_mul, List.take_append, List.drop_append, this]
    have e1 : a.take (i * sz + sz) = a := List.take_of_length_le (by omega)
    have e2 : a.drop (i * sz + sz + sz) = [] := List.drop_of_length_le (by omega)
    rw [e1, e2, show i * sz + sz - sz = i * sz by omega, show i * sz + sz + sz - sz = i * sz + sz by omega]
    simp [List.append_assoc]
theorem NL.set (hz : ∀ x v, rel x v → v.length = sz) {y : E} {v : List Value} (hy : rel y v) {xs : List E} {cs : List Value} (h : NL rel xs cs) {i : Int} (h0 : 0 ≤ i) (h1 : i < (xs.length : Int)) : NL rel (xs.set i.toNat y) (cs.take (i.toNat * sz) ++ v ++ cs.drop (i.toNat * sz + sz)) :=
  h.set_nat hz hy i.toNat (by omega)
theorem NL.one_cell (h1 : ∀ x v, rel x v → v.all Value.oneCell' = true) : ∀ {xs : List E} {cs : List Value}, NL rel xs cs → cs.all Value.oneCell' = true
  | [], _, h => by cases h; rfl
  | x :: xs, _, ⟨a, b, e, h2, h3⟩ => by
    rw [e, List.all_append, h1 x a h2, NL.one_cell h1 h3]; rfl
theorem NL.flat (enc : E → List Value) : ∀ xs : List E, NL (fun x v => v = enc x) xs (xs.flatMap enc)
  | [] => rfl
  | x :: xs => ⟨_, _, List.flatMap_cons, rfl, NL.flat enc xs⟩
end
section
variable {P : Program} {r : Option Nat} {n : Nat} {K : KK} {f : FF} {ds : List Deferred} {w w' : World} {all : Array Oper} {rest : List Oper}
variable {T : TypeId} {pos : String} {af : Array Edge} {d : Nat} {I : Im} {l : List HP} {t : TypeId} {agg : Bool} {zero : List Value} {x y : Operand}
/-- A store of a part of an element of a slice of one's own. -/
theorem ow_storeP {k p : Nat} {Tb : TypeId} {sz m c : Nat} {oa : Option Addr} {xs vs : List Value} {v : Value} (hs : Sat I l w) (hk : l[k]? = some (osl Tb sz oa m c xs))
    (hx : ev n f x = .pointer (some (ea oa p))) (hy : ev n f y = v) (hT : TyC P t agg zero) (hvc : v.cells = vs.toArray) (hl : vs.length = zero.length) (hin : p + vs.length ≤ xs.length) (h0 : 0 < vs.length) (h1 : vs.all Value.oneCell' = true)
    (h : ∀ w', Sat I (l.set k (osl Tb sz oa m c (xs.take p ++ vs ++ xs.drop (p + vs.length)))) w' → OW P r n all K rest f ds w') : OW P r n all K (⟨none, .store t x y, T, pos, af, none⟩ :: rest) f ds w :=
  ow_storeO hs hk hx hy hT hvc hl hin h0 h1 rfl h
/-- An append whose cells are known. -/
theorem ow_appendN {k : Nat} {e : TypeId} {oa ob : Option Addr} {m c m2 c2 mm bytes : Nat} {xs ys : List Value} (hs : Sat I l w) (hk : l[k]? = some (osl e zero.length oa m c xs))
    (hu : SliceT P t e) (hT : TyC P e agg zero) (hE : ElT P e zero bytes) (hz1 : zero.all Value.oneCell' = true) (hx : ev n f x = .slice oa m c) (hy : ev n f y = .slice ob m2 c2)
    (hR : Rs I zero.length ob m2 c2 ys) (h1 : ys.all Value.oneCell' = true) (h63 : m + m2 ≤ 1099511627776) (hby : bytes ≤ 128) (hmm : mm = m + m2)
    (h : ∀ oa' c' w', Sat I (l.set k (osl e zero.length oa' mm c' (xs ++ ys))) w' → OW P r n all K rest (upd f d (.slice oa' mm c')) ds w') :
    OW P r n all K (⟨some d, .call ⟨.builtin .append, #[x, y], #[t, t]⟩, T, pos, af, none⟩ :: rest) f ds w := by
  subst hmm
  exact ow_append hs hk hu hT hE hz1 hx hy hR h1 h63 hby h
/-- An append of great elements. -/
theorem ow_appendG {k : Nat} {e : TypeId} {oa ob : Option Addr} {m c m2 c2 mm bytes : Nat} {xs ys : List Value} (hs : Sat I l w) (hk : l[k]? = some (osl e zero.length oa m c xs))
    (hu : SliceT P t e) (hT : TyC P e agg zero) (hE : ElT P e zero bytes) (hz1 : zero.all Value.oneCell' = true) (hx : ev n f x = .slice oa m c) (hy : ev n f y = .slice ob m2 c2)
    (hR : Rs I zero.length ob m2 c2 ys) (h1 : ys.all Value.oneCell' = true) (h63 : m + m2 ≤ 4294967296) (hby : bytes ≤ 32768) (hmm : mm = m + m2)
    (h : ∀ oa' c' w', Sat I (l.set k (osl e zero.length oa' mm c' (xs ++ ys))) w' → OW P r n all K rest (upd f d (.slice oa' mm c')) ds w') :
    OW P r n all K (⟨some d, .call ⟨.builtin .append, #[x, y], #[t, t]⟩, T, pos, af, none⟩ :: rest) f ds w := by
  subst hmm
  refine ow_appendB hs hk hu hT hE hz1 hx hy hR h1 (by omega) ?_ h
  have := Nat.mul_le_mul h63 hby
  omega
/-- A tmp that a region will write, ahead of that. -/
def frOld : List (Nat × Nat × Value) → Nat → Nat → Bool
  | [], _, _ => true
  | (d, i, _) :: l, t, j => bif Nat.beq t d then Nat.beq i j else frOld l t j
theorem frL_old {L : Nat → Bool} {f : FF} {t j : Nat} : ∀ {dl : List (Nat × Nat × Value)}, frOld dl t j = true → L j = false → frL dl L f t = f t
  | [], _, _ => rfl
  | (d, i, v) :: dl, h, hL => by
    unfold frOld at h
    unfold frL
    by_cases e : t = d
    · subst e
      rw [beq_t, cond_true] at h
      have := Nat.eq_of_beq_eq_true h
      subst this
      simp [beq_t, hL]
    · rw [beq_f e, cond_false] at h
      simp only [beq_f e, cond_false]
      exact frL_old h hL
theorem vac {A : Prop} {L : Nat → Bool} {i j : Nat} (hj : L j = false) (hne : Nat.beq j i = false) (h : setL L i j = true) : A := by
  unfold setL at h
  rw [hne, cond_false, hj] at h
  cases h
end
end Go.HL
