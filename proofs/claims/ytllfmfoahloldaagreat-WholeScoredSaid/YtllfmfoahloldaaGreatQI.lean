/- The plain law of 'WholeScored', last part. -/
import Derived.Test.YtllfmfoahloldaaGreatQH
set_option linter.unusedVariables false
set_option linter.unusedSimpArgs false
set_option maxRecDepth 100000
namespace Go.HL.Tz
open Go.HL
theorem f4_true {x0 x1 : Int} {x2 : List Int} {x3 x4 : Int} {x5 x6 : List Int} {x7 x8 x9 : Int} (h0 : 0 ≤ x0 ∧ x0 ≤ 255) (h1 : 0 ≤ x1 ∧ x1 ≤ 255) (h2 : ∀ y ∈ x2, 0 ≤ y ∧ y ≤ 255) (h3 : -128 ≤ x3 ∧ x3 ≤ 127) (h4 : 0 ≤ x4 ∧ x4 ≤ 255)
    (h5 : ∀ y ∈ x5, -128 ≤ y ∧ y ≤ 127) (h6 : ∀ y ∈ x6, -128 ≤ y ∧ y ≤ 127) (h7 : -2147483648 ≤ x7 ∧ x7 ≤ 2147483647) (h8 : 0 ≤ x8 ∧ x8 ≤ 65535) (h9 : 0 ≤ x9 ∧ x9 ≤ 255) : f4_m x0 x1 x2 x3 x4 x5 x6 x7 x8 x9 = some true := by
  have m0 := tmod_in h0.1 (show (0 : Int) < 4 by decide)
  have m1 := tmod_in h1.1 (show (0 : Int) < 4 by decide)
  have m4 := tmod_in h4.1 (show (0 : Int) < 8 by decide)
  have m9 := tmod_in h9.1 (show (0 : Int) < 9 by decide)
  obtain ⟨w, hw⟩ : ∃ w, w64 (1 + w64 (Int.tmod x0 4)) = w := ⟨_, rfl⟩
  obtain ⟨h, hh⟩ : ∃ h, w64 (1 + w64 (Int.tmod x1 4)) = h := ⟨_, rfl⟩
  have rw' : 1 ≤ w ∧ w ≤ 4 := by rw [← hw, w64s (x := Int.tmod x0 4) (by omega) (by omega), w64s (by omega) (by omega)]; omega
  have rh' : 1 ≤ h ∧ h ≤ 4 := by rw [← hh, w64s (x := Int.tmod x1 4) (by omega) (by omega), w64s (by omega) (by omega)]; omega
  obtain ⟨K, hK⟩ : ∃ K : Nat, w64 (1 + w64 (Int.tmod x4 8)) = (K : Int) := ⟨(1 + Int.tmod x4 8).toNat, by rw [w64s (x := Int.tmod x4 8) (by omega) (by omega), w64s (by omega) (by omega)]; omega⟩
  have rK : 1 ≤ K ∧ K ≤ 8 := by
    have := hK
    rw [w64s (x := Int.tmod x4 8) (by omega) (by omega), w64s (by omega) (by omega)] at this; omega
  have h9' : w64 (Int.tmod x9 9) = Int.tmod x9 9 := w64s (by omega) (by omega)
  have h3' : w64 x3 = x3 := w64s (by omega) (by omega)
  have h7' : w64 x7 = x7 := w64s (by omega) (by omega)
  have h8' : w64 x8 = x8 := w64s (by omega) (by omega)
  have hhi : w64 (w64 (x7 + 1) + x8) = x7 + 1 + x8 := by rw [w64s (x := x7 + 1) (by omega) (by omega), w64s (by omega) (by omega)]
  have hm : w * h ≤ 4 * 4 := Int.mul_le_mul rw'.2 rh'.2 (by omega) (by omega)
  obtain ⟨p, e6, hl, hv⟩ := f6_law (w := w) (h := h) (l := x2) (by omega) (by omega) h2
  have hP : Pix w h (p.map (g x3)) := by
    refine ⟨by simpa using hl, ?_⟩
    intro y hy
    obtain ⟨z, _, rfl⟩ := List.mem_map.1 hy
    exact g_bound x3 z
  have hc := wt_in (i := (K : Int)) h6 (by omega) (by omega)
  have N : Net w h K (rowW x5 p.length) (fB x5) ((List.range' 0 K).map (fB x6)) (wt x6 (K : Int)) x7 (x7 + 1 + x8) := by
    refine ⟨rw', rh', rK, ?_, ?_, ?_, by simp, ?_, by omega, by omega, by omega, by omega⟩
    · intro i _; simpa [rowW] using hl
    · intro i _ y hy
      obtain ⟨j, _, rfl⟩ := List.mem_map.1 hy
      have := wt_in (i := (i : Int) * (p.length : Int) + (j : Int)) h5 (by omega) (by
        have := Int.mul_nonneg (show 0 ≤ (i : Int) by omega) (show 0 ≤ (p.length : Int) by omega)
        omega)
      omega
    · intro i _
      have := wt_in (i := (i : Int)) h5 (by omega) (by omega)
      unfold fB; omega
    · intro y hy
      obtain ⟨j, _, rfl⟩ := List.mem_map.1 hy
      have := wt_in (i := (j : Int)) h6 (by omega) (by omega)
      unfold fB; omega
  have e8 : f8_m w h 1 [(1, 0, 0, 1, x3, 1, 0, 255, 0, 0, 0, [], 0, 0, 0, [])] 3 2 8192 w h p = some (w, h, p.map (g x3), true) := f8_law rw' rh' h3 hl hv
  have l0 := f4_l0_law (x4 := x4) (x6 := x6) rw' rh' h3 h5 h6 hl hv rK.2 hK (fun i hi => (hid_bound N hP hi).2) K FUEL 0 (wt x6 (K : Int)) [] (by omega) (by rw [FUEL_eq]; omega) (by omega) (by omega)
  replace l0 : f4_l0 x3 x4 x5 x6 (w, h, p) FUEL (wt x6 (K : Int)) 0 [] [] [[]] [] = some (score K (rowW x5 p.length) (fB x5) ((List.range' 0 K).map (fB x6)) (wt x6 (K : Int)) (p.map (g x3)), (List.range' 0 K).map (fB x5), (List.range' 0 K).map (rowW x5 p.length), [(List.range' 0 K).map (fB x6)]) := l0
  have e12 := f12_law N hP
  have e13 := f13_law N hP (d := Int.tmod x9 9) (by omega)
  generalize hs : score K (rowW x5 p.length) (fB x5) ((List.range' 0 K).map (fB x6)) (wt x6 (K : Int)) (p.map (g x3)) = S at l0 e12 e13
  unfold f4_m
  rw [hw, hh, e6, Option.bind_some, h3']
  show Option.bind (f8_m w h 1 _ 3 2 8192 w h p) _ = _
  rw [e8, Option.bind_some, if_neg (by simp), hK, f11_law h6 (by omega), Option.bind_some, l0, Option.bind_some, Option.bind_some, h7', h8', hhi, h9']
  simp only []
  have hvd : (if x7 + 1 + x8 ≤ S then some (1 : Int) else (if S ≤ x7 then some 2 else some 3)) = some (verdict x7 (x7 + 1 + x8) S) := by
    unfold verdict
    split
    · rfl
    · split <;> rfl
  rw [hvd, Option.bind_some, e12, Option.bind_some, e13]
  simp [f10_law]
end Go.HL.Tz
