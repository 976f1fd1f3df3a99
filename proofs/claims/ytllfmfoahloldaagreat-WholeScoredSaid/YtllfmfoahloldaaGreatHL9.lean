/- Regions whose order is drawn and that turn what is one's own; indices of arrays held as values; equality of aggregates; boxes that stay; they hold of every program. -/
import Derived.Test.YtllfmfoahloldaaGreatHL8
import Derived.Tactics
import Derived.Tactics2
import Derived.Laws.StructEq
set_option linter.unusedVariables false
set_option linter.unusedSimpArgs false
set_option linter.unusedSectionVars false
namespace Go.HL
open Go.RowKit
/-- A resource's forms as a region goes on, the latest one first. -/
def rL : List (Nat × HP) → HP → (Nat → Bool) → HP
  | [], q, _ => q
  | (i, p) :: l, q, L => bif L i then p else rL l q L
theorem rL_t {L : Nat → Bool} {i : Nat} {p q : HP} {l : List (Nat × HP)} (h : L i = true) : rL ((i, p) :: l) q L = p := by simp [rL, h]
theorem rL_f {L : Nat → Bool} {i : Nat} {p p' q : HP} {l : List (Nat × HP)} (h : L i = false) (e : rL l q L = p') : rL ((i, p) :: l) q L = p' := by simp [rL, h, e]
theorem rL_n {L : Nat → Bool} {q : HP} : rL [] q L = q := rfl
theorem pF {L : Nat → Bool} {c k : Nat} (pr : L c = true → L k = true) (h : L k = false) : L c = false := by
  cases hc : L c with
  | false => rfl
  | true => rw [pr hc] at h; cases h
section
variable {P : Program} {r : Option Nat} {n : Nat} {K : KK} {f : FF} {ds : List Deferred} {w w' : World} {all : Array Oper} {rest : List Oper}
variable {T : TypeId} {pos : String} {af : Array Edge} {d : Nat} {I : Im} {l : List HP} {t : TypeId} {agg : Bool} {zero : List Value} {x y : Operand}
variable {dd : Option Nat} {gg : Option (Nat × Bool)} {ρ : Operand → Value}
theorem Sat.eqv {k : Nat} {p q : HP} (hs : Sat I l w) (hk : l[k]? = some p) (e : p = q) : Sat I (l.set k q) w := hs.weaken hk fun g hg => by rw [← e]; exact hg
theorem pr_self {L : Nat → Bool} {k : Nat} {A : Prop} : A → setL L k k = true := fun _ => by simp [setL]
theorem set_of {L : Nat → Bool} {k j : Nat} (h : L j = true) : setL L k j = true := by unfold setL; cases Nat.beq j k <;> simp [h]
/-- An index of an array that is a value. -/
theorem ow_indexV {E : Type} [Inhabited E] {enc : E → List Value} {X : List E} {e len : Nat} {i : Int} {k : IntKind} {vs : List Value} {v : Value} (hu : ArrT P t len e) (hT : TyC P e agg zero) (hx : ev n f x = .agg (X.flatMap enc).toArray) (hy : ev n f y = .int k i)
    (hl : len = X.length) (hi0 : 0 ≤ i) (hi : i < (X.length : Int)) (hz : ∀ x, (enc x).length = zero.length) (hv : enc (at' X i) = vs) (hvv : (bif agg then .agg vs.toArray else vs.headD undef) = v)
    (h : OW P r n all K rest (upd f d v) ds w) : OW P r n all K (⟨some d, .index t x y, T, pos, af, none⟩ :: rest) f ds w := by
  refine oV (v := v) ?_ rfl h
  have hc : 0 ≤ i ∧ i < (len : Int) := ⟨hi0, by omega⟩
  have h1 : ((X.flatMap enc).drop (i.toNat * zero.length)).take zero.length = vs := by
    have key : ∀ (X : List E) (q : Nat) (hq : q < X.length), ((X.flatMap enc).drop (q * zero.length)).take zero.length = enc X[q] := by
      intro X
      induction X with
      | nil => intro q hq; simp at hq
      | cons a X ih =>
        intro q hq
        cases q with
        | zero => simp [← hz a]
        | succ q =>
          have : (q + 1) * zero.length = (enc a).length + q * zero.length := by rw [hz a, Nat.succ_mul]; omega
          rw [List.flatMap_cons, this, ← List.drop_drop, List.drop_left]
          simpa using ih q (by simpa using hq)
    have hat : at' X i = X[i.toNat]'(by omega) := by simp [at', show i.toNat < X.length by omega]
    rw [key X i.toNat (by omega), ← hat, hv]
  have hlen : vs.length = zero.length := by rw [← hv, hz]
  have h2 : (part e (X.flatMap enc).toArray (i.toNat * zero.length)).run P w = .ok v w := by
    subst hvv
    cases agg with
    | true =>
      simp [part, hT.run_isAgg, hT.run_sizeOf, ← h1, List.extract]
    | false =>
      have h3 := hT.one rfl
      rw [h3] at hlen h1
      match vs, hlen with
      | [v], _ =>
        have h4 : (X.flatMap enc)[i.toNat * zero.length]? = some v := by
          rw [h3]
          have := congrArg (fun l => l[0]?) h1
          simpa using this
        rw [h3] at h4 ⊢
        simp only [Nat.mul_one] at h4 ⊢
        simp [part, hT.run_isAgg, h4]
  simp [execOp, hx, hy, Instr.index, asIntOf, run_underlying hu, hc, hT.run_sizeOf, h2]
/-- Equality of values of a type of one's own. -/
theorem x_neqAgg {cx cy : List Value} {p : Prop} [Decidable p] {T2 : TypeId} (gd : P.eqGuardType P.depth t = false) (h1 : ρ x = .agg cx.toArray) (h2 : ρ y = .agg cy.toArray)
    (he : ∀ w, (Op.equal t (.agg cx.toArray) (.agg cy.toArray)).run P w = .ok (decide p) w) : (execOp ρ ⟨dd, .binOp .neq t x y T2, T, pos, af, gg⟩).run P w = .ok (.value (.bool (decide (¬ p)))) w := by
  have hg : (eqGuard .neq t x y (.agg cx.toArray) (.agg cy.toArray)).run P w = .ok () w := by simp [eqGuard, gd]
  simp only [execOp, h1, h2, Sem.run_bind, hg, Result.andThen_ok, binOp, he w, Sem.run_pure]
  simp
theorem x_eqlAgg {cx cy : List Value} {p : Prop} [Decidable p] {T2 : TypeId} (gd : P.eqGuardType P.depth t = false) (h1 : ρ x = .agg cx.toArray) (h2 : ρ y = .agg cy.toArray)
    (he : ∀ w, (Op.equal t (.agg cx.toArray) (.agg cy.toArray)).run P w = .ok (decide p) w) : (execOp ρ ⟨dd, .binOp .eql t x y T2, T, pos, af, gg⟩).run P w = .ok (.value (.bool (decide p))) w := by
  have hg : (eqGuard .eql t x y (.agg cx.toArray) (.agg cy.toArray)).run P w = .ok () w := by simp [eqGuard, gd]
  simp only [execOp, h1, h2, Sem.run_bind, hg, Result.andThen_ok, binOp, he w, Sem.run_pure]
end
end Go.HL
