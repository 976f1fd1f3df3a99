/- What a list of keys and values holds at a key. -/
import Derived.Test.YtllfmfoahloldaaGreatHL10
namespace Go.HL
section
variable {K V : Type} [DecidableEq K]
def findM : List (K × V) → K → Nat → Option (Nat × V)
  | [], _, _ => none
  | x :: l, k, i => if k = x.1 then some (i, x.2) else findM l k (i + 1)
def getM (l : List (K × V)) (k : K) (z : V) : V := match findM l k 0 with | some x => x.2 | none => z
theorem findM_at : ∀ {l : List (K × V)} {k : K} {i j : Nat} {v : V}, findM l k i = some (j, v) → i ≤ j ∧ l[j - i]? = some (k, v)
  | [], _, _, _, _, h => by cases h
  | x :: l, k, i, j, v, h => by
    unfold findM at h
    split at h
    · rename_i e
      cases h
      obtain ⟨a, b⟩ := x
      simp at e
      subst e
      simp
    · obtain ⟨h1, h2⟩ := findM_at h
      refine ⟨by omega, ?_⟩
      rw [show j - i = (j - (i + 1)) + 1 by omega]
      simpa using h2
end
end Go.HL
