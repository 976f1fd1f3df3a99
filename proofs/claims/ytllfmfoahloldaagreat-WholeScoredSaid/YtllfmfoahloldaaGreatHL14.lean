/- Lists of seen entries, and more rules; they hold of every program. -/
import Derived.Test.YtllfmfoahloldaaGreatHL10
set_option linter.unusedSimpArgs false
set_option linter.unusedSectionVars false
set_option linter.unusedVariables false
namespace Go.HL
section
variable {K V : Type} {l : List (K × V)} {seen : List Nat} {j : Nat} {k : K} {v : V}
theorem allOne {p : V → Prop} (h : ∀ j, j < l.length → j ∈ seen) (h1 : ∀ j ∈ seen, ∀ x, l[j]? = some x → p x.2) : ∀ x ∈ l, p x.2 := by
  intro x hx
  obtain ⟨i, hi, rfl⟩ := List.mem_iff_getElem.1 hx
  exact h1 i (h i hi) _ (List.getElem?_eq_getElem hi)
theorem nodup_more (h : seen.Nodup) (hn : j ∉ seen) : (seen ++ [j]).Nodup := by
  rw [List.nodup_append]
  refine ⟨h, by simp, ?_⟩
  intro a ha b hb e
  simp at hb
  subst hb; subst e
  exact hn ha
theorem lt_more (h : ∀ i ∈ seen, i < l.length) (hj : l[j]? = some (k, v)) : ∀ i ∈ seen ++ [j], i < l.length := by
  intro i hi
  rcases List.mem_append.1 hi with hi | hi
  · exact h i hi
  · simp at hi; subst hi; exact (List.getElem?_eq_some_iff.1 hj).1
theorem one_more {p : V → Prop} (h : ∀ i ∈ seen, ∀ x, l[i]? = some x → p x.2) (hj : l[j]? = some (k, v)) (hv : p v) : ∀ i ∈ seen ++ [j], ∀ x, l[i]? = some x → p x.2 := by
  intro i hi x hx
  rcases List.mem_append.1 hi with hi | hi
  · exact h i hi x hx
  · simp at hi; subst hi; rw [hj] at hx; cases hx; exact hv
theorem seen_le : ∀ (n : Nat) (s : List Nat), s.Nodup → (∀ i ∈ s, i < n) → s.length ≤ n
  | 0, s, _, h => by
    cases s with
    | nil => exact Nat.le_refl _
    | cons a s => exact absurd (h a (List.mem_cons_self ..)) (by omega)
  | n + 1, s, hs, h => by
    by_cases hn : n ∈ s
    · have h1 := seen_le n (s.erase n) (hs.erase n) (fun i hi => by
        have h2 := (hs.mem_erase_iff).1 hi
        have := h i h2.2
        omega)
      have h3 := List.length_erase_of_mem hn
      omega
    · have h1 := seen_le n s hs (fun i hi => by
        have := h i hi
        have : i ≠ n := fun e => by subst e; exact hn hi
        omega)
      omega
theorem onceMore (h : seen.Nodup) (hlt : ∀ i ∈ seen, i < l.length) (hn : j ∉ seen) (hj : l[j]? = some (k, v)) : l.length - (seen ++ [j]).length < l.length - seen.length := by
  have := seen_le l.length (seen ++ [j]) (nodup_more h hn) (lt_more hlt hj)
  rw [List.length_append, List.length_singleton] at *
  omega
end
section
variable {P : Program} {w : World} {T : TypeId} {pos : String} {af : Array Edge} {ρ : Operand → Value} {dd : Option Nat} {gg : Option (Nat × Bool)}
theorem x_pick_tE {c a b : Operand} {v : Value} {e : Bool} (hc : ρ c = .bool e) (E : e = true) (ha : ρ a = v) : (execOp ρ ⟨dd, .pick c a b, T, pos, af, gg⟩).run P w = .ok (.value v) w := by
  subst E; exact xPt hc ha
theorem x_pick_fE {c a b : Operand} {v : Value} {e : Bool} (hc : ρ c = .bool e) (E : e = false) (hb : ρ b = v) : (execOp ρ ⟨dd, .pick c a b, T, pos, af, gg⟩).run P w = .ok (.value v) w := by
  subst E; exact xPf hc hb
end
theorem cw_via {P : Program} {r : Option Nat} {n : Nat} {K : KK} {f : FF} {ds : List Deferred} {w : World} {a : Code} (S : FF → List Deferred → World → Prop) (h1 : CW P r n a (joinK S K) f ds w) (h2 : ∀ f ds w, S f ds w → K .normal f ds w) : CW P r n a K f ds w :=
  h1.mono fun e f ds w k => by cases e <;> first | exact h2 _ _ _ k | exact k
end Go.HL
