/- The plain law of the judge, third part: the certificate for one image alone. -/
import Derived.Test.YtllfmfoahloldaaGreatQE
set_option linter.unusedVariables false
set_option linter.unusedSimpArgs false
namespace Go.HL.Tz
open Go.HL
variable {w h : Int} {k : Nat} {row : Nat → List Int} {b : Nat → Int} {v : List Int} {c low high : Int}
theorem at_pair {p : List Int} {i : Int} (h0 : 0 ≤ i) (h1 : i < (p.length : Int)) : at' (p.map fun x => (x, x)) i = (at' p i, at' p i) := by
  rw [at_int _ i h0 (by simpa using h1), at_int p i h0 h1]; simp
theorem f27_law (N : Net w h k row b v c low high) {p : List Int} (hp : Pix w h p) (d : Int) :
    f27_m w h w h (lays k row b v c) low high (p.map fun x => (x, x)) d = some (verdict low high (score k row b v c p)) := by
  have hw := N.hw; have hh := N.hh
  have hm : w * h ≤ 4 * 4 := Int.mul_le_mul hw.2 hh.2 (by omega) (by omega)
  have hm1 : 1 * 1 ≤ w * h := Int.mul_le_mul hw.1 hh.1 (by omega) (by omega)
  have hl := hp.1
  have key : ∀ (m f : Nat) (i : Int), 0 ≤ i → i + m = p.length → m < f → f27_l0 (p.map fun x => (x, x)) f i 0 = some 0 := by
    intro m
    induction m with
    | zero =>
      intro f i h0 h1 h2
      obtain ⟨f, rfl⟩ : ∃ j, f = j + 1 := ⟨f - 1, by omega⟩
      rw [f27_l0, if_neg (by simp; omega)]
    | succ m ih =>
      intro f i h0 h1 h2
      obtain ⟨f, rfl⟩ : ∃ j, f = j + 1 := ⟨f - 1, by omega⟩
      rw [f27_l0, List.length_map, if_pos (by omega), if_pos (by omega), if_pos (by omega), if_pos (by omega), at_pair (i := 0) (by omega) (by omega), at_pair (i := i) (by omega) (by omega), if_neg (by simp), w64s (by omega) (by omega)]
      exact ih f (i + 1) (by omega) (by omega) (by omega)
  unfold f27_m
  rw [f51_law N hp]
  simp only [Option.bind_some]
  have h25 : f25_m w h w h (lays k row b v c) low high (score k row b v c p) (score k row b v c p) = some (verdict low high (score k row b v c p)) := by
    unfold f25_m verdict
    split
    · rfl
    · split <;> rfl
  rw [h25]
  simp only [Option.bind_some]
  rw [key p.length FUEL 0 (by omega) (by omega) (by rw [FUEL_eq]; omega)]
  simp only [Option.bind_some]
  rw [List.length_map, if_pos (by omega), at_pair (i := 0) (by omega) (by omega)]
  simp only [decide_true]
  generalize verdict low high (score k row b v c p) = z
  split <;> simp <;> split <;> simp
theorem f13_law (N : Net w h k row b v c low high) {p : List Int} (hp : Pix w h p) {d : Int} (hd : 0 ≤ d ∧ d ≤ 8) :
    f13_m w h w h (lays k row b v c) low high w h p w h p d = some (verdict low high (score k row b v c p), 0) := by
  have hw := N.hw; have hh := N.hh
  have hm : w * h ≤ 4 * 4 := Int.mul_le_mul hw.2 hh.2 (by omega) (by omega)
  have hl := hp.1
  have key0 : ∀ (m f : Nat) (i : Int), 0 ≤ i → i + m = p.length → m < f → f13_l0 p p f i = some (.inl ()) := by
    intro m
    induction m with
    | zero =>
      intro f i h0 h1 h2
      obtain ⟨f, rfl⟩ : ∃ j, f = j + 1 := ⟨f - 1, by omega⟩
      rw [f13_l0, if_neg (by omega)]
    | succ m ih =>
      intro f i h0 h1 h2
      obtain ⟨f, rfl⟩ : ∃ j, f = j + 1 := ⟨f - 1, by omega⟩
      rw [f13_l0, if_pos (by omega), if_pos (by omega), if_pos (by omega), if_neg (by omega), w64s (by omega) (by omega)]
      exact ih f (i + 1) (by omega) (by omega) (by omega)
  have key1 : ∀ (m f i : Nat), i + m = p.length → m < f → f13_l1 p p f (i : Int) ((List.range' 0 i).map (fun (j : Nat) => (at' p j, at' p j)) ++ List.replicate m (0, 0)) = some (p.map fun x => (x, x)) := by
    intro m
    induction m with
    | zero =>
      intro f i h1 h2
      obtain ⟨f, rfl⟩ : ∃ j, f = j + 1 := ⟨f - 1, by omega⟩
      rw [f13_l1, if_neg (by simp; omega), List.replicate_zero, List.append_nil, show i = p.length by omega, ← range_map_at p (fun x => (x, x))]
    | succ m ih =>
      intro f i h1 h2
      obtain ⟨f, rfl⟩ : ∃ j, f = j + 1 := ⟨f - 1, by omega⟩
      rw [f13_l1, if_pos (by simp; omega), if_pos (by omega), if_pos (by omega), fill_len, if_pos (by omega), Int.toNat_natCast, fill_step (fun (j : Nat) => (at' p j, at' p j)), w64s (by omega) (by omega)]
      exact ih f (i + 1) (by omega) (by omega)
  have k1 := key1 p.length FUEL 0 (by omega) (by rw [FUEL_eq]; omega)
  replace k1 : f13_l1 p p FUEL 0 (List.replicate p.length (0, 0)) = some (p.map fun x => (x, x)) := k1
  unfold f13_m
  rw [f21_law2 N hp]
  simp only [Option.bind_some]
  rw [if_neg (by decide), key0 p.length FUEL 0 (by omega) (by omega) (by rw [FUEL_eq]; omega)]
  simp only [lb]
  rw [f26_law (xs := [d]) (by simp) (by intro y hy; simp at hy; omega)]
  simp only [Option.bind_some, Bool.not_true]
  rw [if_neg (by decide), f22_law N hp]
  simp only [Option.bind_some]
  rw [if_pos (by omega), Int.toNat_natCast, k1]
  simp only [Option.bind_some]
  rw [f27_law N hp]
  rfl
end Go.HL.Tz
