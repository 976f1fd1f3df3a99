/- What the compiler makes of one point step: by reckoning, for the sizes asked. -/
import Derived.Test.YtllfmfoahloldaaGreatZQ
import Derived.Test.YtllfmfoahloldaaGreatQA
set_option linter.unusedVariables false
set_option linter.unusedSimpArgs false
set_option maxRecDepth 100000
namespace Go.HL.Tz
open Go.HL
abbrev Step := Int × Int × Int × Int × Int × Int × Int × Int × Int × Int × Int × List Int × Int × Int × Int × List Bool
abbrev Ins := Int × Int × Int × Int × Int × Int × Int × Int × Int × Int × Int × List Int
def stp (d : Int) : Step := (1, 0, 0, 1, d, 1, 0, 255, 0, 0, 0, [], 0, 0, 0, [])
def cells (n o r : Nat) : List Int := (List.range 3).map fun i => if 3 * r + i < n then ((o + 3 * r + i : Nat) : Int) else -1
def insL (n r : Nat) : Ins := (1, 0, 0, 0, 0, 0, 0, 0, 0, 0, 0, cells n 0 r)
def insP (d : Int) : Ins := (4, 0, 0, 0, 0, 1, d, 1, 0, 255, 0, [])
def insS (n r : Nat) : Ins := (2, 0, 0, 0, 0, 0, 0, 0, 0, 0, 0, cells n n r)
def codeOf (n : Nat) (d : Int) : List Ins := (List.range ((n + 2) / 3)).flatMap fun r => [insL n r, insP d, insS n r]
theorem ptOk {d : Int} (hd : -128 ≤ d ∧ d ≤ 127) : PtOk 1 d 1 0 255 := ⟨by omega, by omega, by omega, by omega, by omega, by omega⟩
theorem f59_law {x a b : Int} (h : a ≤ x ∧ x ≤ b) : f59_m x a b = some true := by
  unfold f59_m; rw [if_pos h.1, decide_eq_true h.2]; rfl
theorem f32_law {w h d : Int} (hw : 1 ≤ w ∧ w ≤ 4) (hh : 1 ≤ h ∧ h ≤ 4) (hd : -128 ≤ d ∧ d ≤ 127) : f32_m w h 1 [stp d] = some 0 := by
  obtain ⟨q, hq, _⟩ := fuel 3 (by omega)
  have a0 : at' [stp d] 0 = stp d := rfl
  have h61 : f61_m 1 0 0 1 d 1 0 255 0 0 0 [] 0 0 0 [] [(1, 1, [0])] = some (1, 1, [pt 1 d 1 0 255 0], 0) := by
    unfold f61_m
    rw [if_pos rfl, if_pos (by simp), show at' [((1 : Int), (1 : Int), [(0 : Int)])] 0 = (1, 1, [0]) from rfl, f49_law (w := 1) (h := 1) (pix := [0]) (ptOk hd) (by decide) (by decide) (by decide) (by decide)]
    rfl
  have l1 : f32_l1 1 0 [0] FUEL 0 = some (.inl ()) := by
    rw [hq, f32_l1, if_pos (by simp), if_pos (by simp), show at' [(0 : Int)] 0 = 0 from rfl, f59_law (by decide)]
    simp only [Option.bind_some, Bool.not_true]
    rw [if_neg (by decide), show w64 (0 + 1) = 1 from rfl, f32_l1, if_neg (by simp)]
  have l0 : f32_l0 1 [stp d] FUEL 0 = some (.inl ()) := by
    rw [hq, f32_l0, if_pos (by simp), if_pos (by simp), a0]
    unfold stp
    simp only []
    rw [show f60_m 1 0 0 1 d 1 0 255 0 0 0 [] 0 0 0 [] = some [0] from rfl, h61]
    simp only [Option.bind_some]
    rw [l1]
    simp only [lb]
    rw [show w64 (0 + 1) = 1 from rfl, f32_l0, if_neg (by simp)]
    simp
  unfold f32_m
  rw [f59_law (by omega)]
  simp only [Option.bind_some, Bool.not_true]
  rw [if_neg (by decide), f59_law (by omega)]
  simp only [Option.bind_some, Bool.not_true]
  rw [if_neg (by decide), f59_law (by omega)]
  simp only [Option.bind_some, Bool.not_true]
  rw [if_neg (by decide), f59_law (by simp)]
  simp only [Option.bind_some, Bool.not_true]
  rw [if_neg (by decide), l0]
  rfl
theorem comp {w h d : Int} (hw : 1 ≤ w ∧ w ≤ 4) (hh : 1 ≤ h ∧ h ≤ 4) (hd : -128 ≤ d ∧ d ≤ 127) : f18_m w h 1 [stp d] 3 2 8192 = some (w, h, [0], w * h, codeOf (w * h).toNat d, 0) := by
  unfold f18_m
  rw [f32_law hw hh hd]
  rcases (show w = 1 ∨ w = 2 ∨ w = 3 ∨ w = 4 by omega) with rfl | rfl | rfl | rfl <;> rcases (show h = 1 ∨ h = 2 ∨ h = 3 ∨ h = 4 by omega) with rfl | rfl | rfl | rfl <;> kernel_rfl
end Go.HL.Tz
