/- Rows put back unturned; how long a slice of one's own may be. -/
import Derived.Test.YtllfmfoahloldaaGreatHL22
set_option linter.unusedVariables false
set_option linter.unusedSectionVars false
namespace Go.HL
attribute [local irreducible] OW CW CV
section
variable {I : Im} {l : List HP} {w : World} {ra : Option Addr} {rn rc : Nat} {rs : List Rh} {X : List (List Int)} {i : Int}
theorem Sat.rowIn0 (hs : Sat I (osl 3 1 (rAt rs i).1 (at' X i).length (rAt rs i).2 ((at' X i).flatMap e64) :: rowsH i ra rn rc rs X :: l) w) (h0 : 0 ≤ i) (h1 : i < (X.length : Int)) (hl : rs.length = X.length) :
    Sat I (rowsP ra rn rc rs X :: l) w := by
  have h := hs.rowIn (n := 0) h0 h1 hl rfl
  have hi : i.toNat < X.length := by omega
  have e : X.set i.toNat (at' X i) = X := by
    have e1 : at' X i = X[i.toNat] := by simp [at', hi]
    rw [e1]; exact set_self X i.toNat hi
  rwa [e] at h
theorem osl_le {k : Nat} {Tb : TypeId} {sz m c : Nat} {oa : Option Addr} {xs : List Value} (hs : Sat I l w) (hk : l[k]? = some (osl Tb sz oa m c xs)) : m ≤ c := by
  obtain ⟨g, ⟨_, hg⟩, _, _⟩ := hs.focus hk
  rcases hg with ⟨_, h3, h4⟩ | ⟨_, _, _, _, h5, _⟩ <;> omega
end
end Go.HL
