/- The ground of the walks of this claim: frames as functions, a hidden heap as a list of resources beside an immutable part, and the rules of the code over them; it holds of every program. -/
import Derived.RangeFuncLeaves
import Derived.RangeFuncIn
import Derived.OrdersIn
import Derived.TacticsIn
import Derived.Laws.AppendOwn
import Derived.Laws.Slices
import Derived.Laws.Rows
import Derived.KernelRfl
import Derived.WalkKit
set_option linter.unusedVariables false
set_option linter.unusedSimpArgs false
set_option linter.unusedSectionVars false
namespace Go.HL

/-! ### Frames -/
abbrev FF := Nat → Value
def Fr (n : Nat) (f : FF) : Array Value := Array.ofFn (fun i : Fin n => f i.1)
def upd (f : FF) (d : Nat) (v : Value) : FF := fun t => bif Nat.beq t d then v else f t
def updO (f : FF) : Option Nat → Value → FF
  | some d, v => upd f d v
  | none, _ => f
def ev (n : Nat) (f : FF) : Operand → Value
  | .tmp t => bif Nat.blt t n then f t else undef
  | .const v => v
  | .global g => .pointer (some ⟨g, 0, none⟩)
  | .func k => .func (.func k) #[] #[]
theorem blt_t {t n : Nat} (h : t < n) : Nat.blt t n = true := by rw [Nat.blt_eq]; exact h
theorem blt_f {t n : Nat} (h : ¬ t < n) : Nat.blt t n = false := by
  rw [Bool.eq_false_iff]; intro e; rw [Nat.blt_eq] at e; exact h e
theorem beq_f {t d : Nat} (h : t ≠ d) : Nat.beq t d = false := by
  rw [Bool.eq_false_iff]; intro e; exact h (Nat.eq_of_beq_eq_true e)
theorem beq_t (t : Nat) : Nat.beq t t = true := Nat.beq_refl t
theorem size_Fr (n : Nat) (f : FF) : (Fr n f).size = n := by simp [Fr]
theorem Fr_get (n : Nat) (f : FF) (t : Nat) : (Fr n f).getD t undef = bif Nat.blt t n then f t else undef := by
  by_cases h : t < n
  · rw [blt_t h]
    simp [Fr, Array.getD, h]
  · rw [blt_f h]
    simp [Fr, Array.getD, h]
theorem eval_Fr (n : Nat) (f : FF) (ds : List Deferred) : (Act.mk (Fr n f) ds).eval = ev n f := by
  funext x
  cases x with
  | tmp t => exact Fr_get n f t
  | _ => rfl
theorem upd_same (f : FF) (d : Nat) (v : Value) : upd f d v d = v := by simp only [upd, beq_t, cond_true]
theorem upd_other (f : FF) {d t : Nat} (v : Value) (h : t ≠ d) : upd f d v t = f t := by simp only [upd, beq_f h, cond_false]
theorem Fr_getElem (n : Nat) (f : FF) (i : Nat) (h : i < (Fr n f).size) : (Fr n f)[i] = f i := by simp [Fr]
theorem Fr_set (n : Nat) (f : FF) (d : Nat) (v : Value) : (Fr n f).setIfInBounds d v = Fr n (upd f d v) := by
  apply Array.ext
  · rw [Array.size_setIfInBounds, size_Fr, size_Fr]
  · intro i h1 h2
    have h3 : i < (Fr n f).size := by rw [size_Fr] at h2; rw [size_Fr]; exact h2
    rw [Array.getElem_setIfInBounds h3, Fr_getElem, Fr_getElem]
    by_cases e : d = i
    · rw [if_pos e, e, upd_same]
    · rw [if_neg e, upd_other f v (fun h => e h.symm)]
theorem put_Fr (n : Nat) (f : FF) (ds : List Deferred) (d : Option Nat) (v : Value) : (Act.mk (Fr n f) ds).put d v = ⟨Fr n (updO f d v), ds⟩ := by
  cases d with
  | none => rfl
  | some d => simp [Act.put, updO, Fr_set]
def yl (ops : Array Oper) (n : Nat) (f : FF) (j : Nat) : Option Bool :=
  match (ops[j]?).bind (·.dst) with
  | some d => match ev n f (.tmp d) with
    | .bool b => some b
    | _ => none
  | none => none
theorem yielded_Fr (ops : Array Oper) (n : Nat) (f : FF) : yielded ops (Fr n f) = yl ops n f := by
  funext j
  unfold yielded yl
  cases h : (ops[j]?).bind (·.dst) with
  | none => simp
  | some d =>
    simp only [Option.bind_some, ev]
    by_cases hd : d < n
    · rw [blt_t hd]
      simp only [cond_true]
      have : (Fr n f)[d]? = some (f d) := by simp [Fr, hd]
      rw [this]
      cases f d <;> rfl
    · rw [blt_f hd]
      simp only [cond_false]
      have : (Fr n f)[d]? = none := by simp [Fr]; exact Nat.le_of_not_lt hd
      rw [this]
      rfl

/-- A frame of a call. -/
def argF (args : List Value) : FF := fun t => args.getD t undef
theorem Fr_args (args : List Value) (n : Nat) (h : args.length ≤ n) : args.toArray ++ Array.replicate (n - args.toArray.size) undef = Fr n (argF args) := by
  apply Array.ext
  · simp [Fr]; omega
  · intro i h1 h2
    simp only [Fr, Array.getElem_ofFn, argF]
    rw [Array.getElem_append]
    split
    · rename_i hi
      simp only [List.size_toArray] at hi
      simp [List.getD, hi]
    · rename_i hi
      simp only [List.size_toArray] at hi
      have : args[i]? = none := by simp; omega
      simp [List.getD, this]

/-! ### The fences -/
def Fw (r : Option Nat) : Fence := { fn := fun _ => True, depth := none, alive := false, round := r }
theorem Fw_none : Fw none = Fence.wide := rfl
theorem Fw_some (l : Nat) : Fw (some l) = Fence.wide.inRound l := rfl

abbrev KK := Exit → FF → List Deferred → World → Prop
def QK (n : Nat) (K : KK) : Exit → Act → World → Prop := fun e a w => ∃ f ds, a = ⟨Fr n f, ds⟩ ∧ K e f ds w
/-- Code, from a frame and a world on. -/
def CW (P : Program) (r : Option Nat) (n : Nat) (c : Code) (K : KK) (f : FF) (ds : List Deferred) (w : World) : Prop :=
  c.wpIn (Fw r) 0 P (QK n K) ⟨Fr n f, ds⟩ w
section code
variable {P : Program} {r : Option Nat} {n : Nat} {K : KK} {f : FF} {ds : List Deferred} {w : World}
theorem CW.mono {c : Code} {K K' : KK} (h : CW P r n c K f ds w) (hK : ∀ e f ds w, K e f ds w → K' e f ds w) : CW P r n c K' f ds w :=
  wpIn_mono h fun _ _ _ ⟨f', ds', e, k⟩ => ⟨f', ds', e, hK _ _ _ _ k⟩
theorem cw_skip (h : K .normal f ds w) : CW P r n .skip K f ds w := wpIn_skip ⟨f, ds, rfl, h⟩
theorem cw_exit {id : Nat} (h : K (.exit id) f ds w) : CW P r n (.exit id) K f ds w := wpIn_exit ⟨f, ds, rfl, h⟩
theorem cw_ret (h : K .ret f ds w) : CW P r n .ret K f ds w := wpIn_ret ⟨f, ds, rfl, h⟩
theorem cw_label {l : Nat} (h : K .normal f ds w) : CW P r n (.label l) K f ds w := wpIn_label ⟨f, ds, rfl, h⟩
def seqK (P : Program) (r : Option Nat) (n : Nat) (y : Code) (K : KK) : KK
  | .normal, f, ds, w => CW P r n y K f ds w
  | e, f, ds, w => K e f ds w
theorem cQ {x y : Code} (h : CW P r n x (seqK P r n y K) f ds w) : CW P r n (.seq x y) K f ds w := by
  refine wpIn_seq (wpIn_mono h ?_)
  rintro e a w ⟨f', ds', rfl, k⟩
  cases e <;> first | exact k | exact ⟨f', ds', rfl, k⟩
theorem sK {y : Code} (h : CW P r n y K f ds w) : seqK P r n y K .normal f ds w := h
theorem seqK_x {y : Code} {id : Nat} (h : K (.exit id) f ds w) : seqK P r n y K (.exit id) f ds w := h
theorem seqK_r {y : Code} (h : K .ret f ds w) : seqK P r n y K .ret f ds w := h
def blockK (id : Nat) (K : KK) : KK
  | .exit id', f, ds, w => if id' = id then K .normal f ds w else K (.exit id') f ds w
  | e, f, ds, w => K e f ds w
theorem cw_block {id : Nat} {c : Code} (h : CW P r n c (blockK id K) f ds w) : CW P r n (.block id c) K f ds w := by
  refine wpIn_block (wpIn_mono h ?_)
  rintro e a w ⟨f', ds', rfl, k⟩
  cases e with
  | exit id' =>
    simp only [Exit.inBlock, blockK] at k ⊢
    split
    · rename_i hh; rw [if_pos hh] at k; exact ⟨f', ds', rfl, k⟩
    · rename_i hh; rw [if_neg hh] at k; exact ⟨f', ds', rfl, k⟩
  | _ => exact ⟨f', ds', rfl, k⟩
theorem blockK_n {id : Nat} (h : K .normal f ds w) : blockK id K .normal f ds w := h
theorem blockK_r {id : Nat} (h : K .ret f ds w) : blockK id K .ret f ds w := h
theorem blockK_hit {id : Nat} (h : K .normal f ds w) : blockK id K (.exit id) f ds w := by simp only [blockK, if_true]; exact h
theorem blockK_x {id id' : Nat} (hne : Nat.beq id' id = false) (h : K (.exit id') f ds w) : blockK id K (.exit id') f ds w := by
  have : id' ≠ id := fun e => by subst e; simp at hne
  simp only [blockK, if_neg this]; exact h
theorem cw_cond {c : Operand} {x y : Code} {t : Bool} (hc : ev n f c = .bool t) (h : CW P r n (bif t then x else y) K f ds w) : CW P r n (.cond c x y) K f ds w := by
  refine wpIn_cond (t := t) (by rw [eval_Fr]; exact hc) ?_
  cases t <;> exact h
theorem cw_cond_t {c : Operand} {x y : Code} (hc : ev n f c = .bool true) (h : CW P r n x K f ds w) : CW P r n (.cond c x y) K f ds w := cw_cond hc h
theorem cw_cond_f {c : Operand} {x y : Code} (hc : ev n f c = .bool false) (h : CW P r n y K f ds w) : CW P r n (.cond c x y) K f ds w := cw_cond hc h
/-- A loop, by a count that falls. -/
theorem least (p : Nat → Prop) : ∀ k, p k → ∃ j, p j ∧ ∀ i, p i → j ≤ i := by
  intro k
  induction k using Nat.strongRecOn with
  | _ k ih =>
    intro hk
    by_cases h : ∃ j, j < k ∧ p j
    · obtain ⟨j, hj, hp⟩ := h
      exact ih j hj hp
    · exact ⟨k, hk, fun i hi => Nat.le_of_not_lt fun hlt => h ⟨i, hlt, hi⟩⟩
def loopK (next : FF → List Deferred → World → Prop) (K : KK) : KK
  | .normal, f, ds, w => next f ds w
  | e, f, ds, w => K e f ds w
theorem lN {next : FF → List Deferred → World → Prop} (h : next f ds w) : loopK next K .normal f ds w := h
theorem loopK_r {next : FF → List Deferred → World → Prop} (h : K .ret f ds w) : loopK next K .ret f ds w := h
theorem loopK_x {next : FF → List Deferred → World → Prop} {id : Nat} (h : K (.exit id) f ds w) : loopK next K (.exit id) f ds w := h
open Classical in
theorem cL {c : Code} (S : Nat → FF → List Deferred → World → Prop)
    (round : ∀ k f ds w, S k f ds w → CW P r n c (loopK (fun f' ds' w' => ∃ k', k' < k ∧ S k' f' ds' w') K) f ds w) {k : Nat} (h : S k f ds w) : CW P r n (.loop c) K f ds w := by
  let I : Act → World → Prop := fun a w => ∃ k f ds, a = ⟨Fr n f, ds⟩ ∧ S k f ds w
  have hleast : ∀ a w, I a w → ∃ j, (∃ f ds, a = ⟨Fr n f, ds⟩ ∧ S j f ds w) ∧ ∀ i, (∃ f ds, a = ⟨Fr n f, ds⟩ ∧ S i f ds w) → j ≤ i := by
    rintro a w ⟨k, f, ds, e, hS⟩
    exact least (fun j => ∃ f ds, a = ⟨Fr n f, ds⟩ ∧ S j f ds w) k ⟨f, ds, e, hS⟩
  let μ : Act → World → Nat := fun a w => if h : I a w then Classical.choose (hleast a w h) else 0
  refine wpIn_loop I μ ⟨k, f, ds, rfl, h⟩ ?_
  intro a w hI
  have hspec := Classical.choose_spec (hleast a w hI)
  have hμ : μ a w = Classical.choose (hleast a w hI) := by simp only [μ]; rw [dif_pos hI]
  rw [hμ]
  generalize Classical.choose (hleast a w hI) = j at hspec ⊢
  obtain ⟨⟨f, ds, rfl, hS⟩, _⟩ := hspec
  refine wpIn_mono (round j f ds w hS) ?_
  rintro e a w ⟨f', ds', rfl, k⟩
  cases e with
  | normal =>
    obtain ⟨k', hlt, hS'⟩ := k
    have hI' : I ⟨Fr n f', ds'⟩ w := ⟨k', f', ds', rfl, hS'⟩
    refine ⟨hI', ?_⟩
    have hspec' := (Classical.choose_spec (hleast _ w hI')).2 k' ⟨f', ds', rfl, hS'⟩
    have hμ' : μ ⟨Fr n f', ds'⟩ w = Classical.choose (hleast _ w hI') := by simp only [μ]; rw [dif_pos hI']
    rw [hμ']
    omega
  | _ => exact ⟨f', ds', rfl, k⟩
end code
end Go.HL
