/- The plain law of 'WholeScored': its model answers true. -/
import Derived.Test.YtllfmfoahloldaaGreatZW
import Derived.Test.YtllfmfoahloldaaGreatQF
import Derived.Test.YtllfmfoahloldaaGreatQG
set_option linter.unusedVariables false
set_option linter.unusedSimpArgs false
set_option maxRecDepth 100000
namespace Go.HL.Tz
open Go.HL
theorem tmod_in {i n : Int} (h0 : 0 ≤ i) (hn : 0 < n) : 0 ≤ Int.tmod i n ∧ Int.tmod i n < n := by
  rw [Int.tmod_eq_emod_of_nonneg h0]
  exact ⟨Int.emod_nonneg _ (by omega), Int.emod_lt_of_pos _ hn⟩
def wt (l : List Int) (i : Int) : Int := if (l.length : Int) = 0 then 0 else at' l (Int.tmod i (l.length : Int))
theorem wt_in {l : List Int} {a b i : Int} (hl : ∀ y ∈ l, a ≤ y ∧ y ≤ b) (ha : a ≤ 0 ∧ 0 ≤ b) (h0 : 0 ≤ i) : a ≤ wt l i ∧ wt l i ≤ b := by
  unfold wt
  by_cases h : (l.length : Int) = 0
  · rw [if_pos h]; exact ha
  · rw [if_neg h]
    have := tmod_in h0 (show (0 : Int) < (l.length : Int) by omega)
    exact hl _ (at_mem l _ this.1 this.2)
theorem f11_law {l : List Int} {i : Int} (hl : ∀ y ∈ l, -128 ≤ y ∧ y ≤ 127) (h0 : 0 ≤ i) : f11_m l i = some (wt l i) := by
  have hw := wt_in hl (by omega) h0
  unfold f11_m
  unfold wt at hw ⊢
  by_cases h : (l.length : Int) = 0
  · rw [if_pos h, if_pos h]
  · rw [if_neg h] at hw ⊢
    have := tmod_in h0 (show (0 : Int) < (l.length : Int) by omega)
    rw [if_pos h, if_pos this, if_neg h, w64s (by omega) (by omega)]
theorem f6_law {w h : Int} {l : List Int} (hw : 1 ≤ w ∧ w ≤ 16) (hh : 1 ≤ h ∧ h ≤ 16) (hl : ∀ y ∈ l, 0 ≤ y ∧ y ≤ 255) : ∃ p, f6_m w h l = some (w, h, p) ∧ (p.length : Int) = w * h ∧ ∀ y ∈ p, 0 ≤ y ∧ y ≤ 255 := by
  have hm : w * h ≤ 16 * 16 := Int.mul_le_mul hw.2 hh.2 (by omega) (by omega)
  have hm0 : 0 ≤ w * h := Int.mul_nonneg (by omega) (by omega)
  have key : ∀ (m k i : Nat) (xs : List Int), (i : Int) + m = w * h → m < k → xs.length = i → (∀ y ∈ xs, 0 ≤ y ∧ y ≤ 255) → ∃ p, f6_l0 w h l k (i : Int) xs = some p ∧ (p.length : Int) = w * h ∧ ∀ y ∈ p, 0 ≤ y ∧ y ≤ 255 := by
    intro m
    induction m with
    | zero =>
      intro k i xs h1 h2 h3 h4
      obtain ⟨k, rfl⟩ : ∃ j, k = j + 1 := ⟨k - 1, by omega⟩
      rw [f6_l0, w64s (x := w * h) (by omega) (by omega), if_neg (by omega)]
      exact ⟨xs, rfl, by omega, h4⟩
    | succ m ih =>
      intro k i xs h1 h2 h3 h4
      obtain ⟨k, rfl⟩ : ∃ j, k = j + 1 := ⟨k - 1, by omega⟩
      rw [f6_l0, w64s (x := w * h) (by omega) (by omega), if_pos (by omega)]
      by_cases h5 : 0 < (l.length : Int)
      · have h6 := tmod_in (show 0 ≤ (i : Int) by omega) h5
        have h7 := hl _ (at_mem l _ h6.1 h6.2)
        rw [if_pos h5, if_pos (by omega), if_pos h6, if_pos (by simp; omega), w64s (x := at' l _) (by omega) (by omega), w64s (by omega) (by omega)]
        refine ih k (i + 1) _ (by omega) (by omega) (by simp [h3]) ?_
        intro y hy
        rcases List.mem_append.1 hy with hy | hy
        · exact h4 y hy
        · simp at hy; subst hy; exact h7
      · rw [if_neg h5, if_pos (by simp; omega), w64s (by omega) (by omega)]
        refine ih k (i + 1) _ (by omega) (by omega) (by simp [h3]) ?_
        intro y hy
        rcases List.mem_append.1 hy with hy | hy
        · exact h4 y hy
        · simp at hy; subst hy; omega
  obtain ⟨p, h1, h2⟩ := key (w * h).toNat FUEL 0 [] (by omega) (by rw [FUEL_eq]; omega) rfl (by simp)
  refine ⟨p, ?_, h2⟩
  unfold f6_m
  rw [show f6_l0 w h l FUEL 0 [] = some p from h1]
  rfl
theorem f10_law : f10_m = some true := by kernel_rfl
theorem g_eq (d p : Int) : max 0 (min (p + d) 255) = g d p := by
  unfold g pt; rw [Int.ediv_one, Int.one_mul]
/-- The rows, biases and weights that the numbers give. -/
def rowW (x5 : List Int) (n i : Nat) : List Int := (List.range' 0 n).map fun (j : Nat) => wt x5 ((i : Int) * (n : Int) + (j : Int))
def fB (x5 : List Int) (i : Nat) : Int := wt x5 (i : Int)
theorem f4_l1_law {x3 : Int} {x5 p : List Int} {w h : Int} {i : Nat} (hw : 1 ≤ w ∧ w ≤ 4) (hh : 1 ≤ h ∧ h ≤ 4) (hd : -128 ≤ x3 ∧ x3 ≤ 127) (h5 : ∀ y ∈ x5, -128 ≤ y ∧ y ≤ 127) (hl : (p.length : Int) = w * h) (hv : ∀ y ∈ p, 0 ≤ y ∧ y ≤ 255) (hi : i < 8) :
    ∀ (m k j : Nat) (a : Int), j + m = p.length → m < k → -100000000000000 ≤ a - m * 100000000000 → a + m * 100000000000 ≤ 100000000000000 → f4_l1 x3 x5 (w, h, p) (i : Int) k a (j : Int) ((rowW x5 p.length i).take j) = some (acc a ((rowW x5 p.length i).drop j) ((p.map (g x3)).drop j), rowW x5 p.length i) := by
  have hm : w * h ≤ 4 * 4 := Int.mul_le_mul hw.2 hh.2 (by omega) (by omega)
  have hm0 : 0 ≤ w * h := Int.mul_nonneg (by omega) (by omega)
  have hrl : (rowW x5 p.length i).length = p.length := by simp [rowW]
  have hin : (i : Int) * (w * h) ≤ 8 * 16 := Int.mul_le_mul (by omega) (by omega) (by omega) (by omega)
  have hin0 : 0 ≤ (i : Int) * (w * h) := Int.mul_nonneg (by omega) (by omega)
  intro m
  induction m with
  | zero =>
    intro k j a h1 h2 _ _
    obtain ⟨k, rfl⟩ : ∃ j, k = j + 1 := ⟨k - 1, by omega⟩
    rw [f4_l1, w64s (x := w * h) (by omega) (by omega), if_neg (by omega), List.take_of_length_le (by omega), List.drop_eq_nil_of_le (by omega)]
    simp [acc]
  | succ m ih =>
    intro k j a h1 h2 h3 h4
    obtain ⟨k, rfl⟩ : ∃ j, k = j + 1 := ⟨k - 1, by omega⟩
    have hj : j < p.length := by omega
    have b2 := hv _ (at_mem p (j : Int) (by omega) (by omega))
    have e1 : wt x5 ((i : Int) * (w * h) + (j : Int)) = at' (rowW x5 p.length i) (j : Int) := by
      unfold rowW
      rw [at_range _ hj, hl]
    have b1 := wt_in (i := (i : Int) * (w * h) + (j : Int)) h5 (by omega) (by omega)
    rw [e1] at b1
    have e2 : (rowW x5 p.length i).take j ++ [at' (rowW x5 p.length i) (j : Int)] = (rowW x5 p.length i).take (j + 1) := by
      rw [at_nat _ j (by omega), List.take_append_getElem (by omega)]
    have e3 : at' ((rowW x5 p.length i).take (j + 1)) (j : Int) = at' (rowW x5 p.length i) (j : Int) := by
      rw [at_nat _ j (by rw [List.length_take]; omega), at_nat _ j (by omega), List.getElem_take]
    have e4 : at' (p.map (g x3)) (j : Int) = g x3 (at' p (j : Int)) := by
      rw [at_nat _ j (by simpa using hj), at_nat p j hj, List.getElem_map]
    have hg := g_bound x3 (at' p (j : Int))
    have hb := mulb (a := at' (rowW x5 p.length i) (j : Int)) (b := g x3 (at' p (j : Int))) (A := 128) (B := 255) (by omega) (by omega)
    have hlt : ((rowW x5 p.length i).take (j + 1)).length = j + 1 := by rw [List.length_take]; omega
    have hlt0 : ((rowW x5 p.length i).take j).length = j := by rw [List.length_take]; omega
    rw [f4_l1, w64s (x := w * h) (by omega) (by omega), if_pos (by omega), w64s (x := (i : Int) * (w * h)) (by omega) (by omega), w64s (x := (i : Int) * (w * h) + (j : Int)) (by omega) (by omega), f11_law h5 (by omega), e1]
    simp only [Option.bind_some]
    rw [if_pos (by rw [hlt0]; simp; omega), e2, e3, hlt, if_pos (by omega), if_pos (by omega), w64s (x := x3) (by omega) (by omega), w64s (x := at' p (j : Int) + x3) (by omega) (by omega), g_eq, w64s (x := at' (rowW x5 p.length i) (j : Int) * g x3 (at' p (j : Int))) (by omega) (by omega), w64s (x := a + at' (rowW x5 p.length i) (j : Int) * g x3 (at' p (j : Int))) (by omega) (by omega), w64s (x := (j : Int) + 1) (by omega) (by omega)]
    rw [acc_drop (x := 0) (y := 0) (j := j) (by omega) (by simpa using hj), ← at_nat (rowW x5 p.length i) j (by omega), ← at_nat (p.map (g x3)) j (by simpa using hj), e4]
    exact ih k (j + 1) _ (by omega) (by omega) (by omega) (by omega)
theorem f4_l0_law {x3 x4 : Int} {x5 x6 p : List Int} {w h : Int} {K : Nat} (hw : 1 ≤ w ∧ w ≤ 4) (hh : 1 ≤ h ∧ h ≤ 4) (hd : -128 ≤ x3 ∧ x3 ≤ 127) (h5 : ∀ y ∈ x5, -128 ≤ y ∧ y ≤ 127) (h6 : ∀ y ∈ x6, -128 ≤ y ∧ y ≤ 127) (hl : (p.length : Int) = w * h) (hv : ∀ y ∈ p, 0 ≤ y ∧ y ≤ 255)
    (hK : K ≤ 8) (hk : w64 (1 + w64 (Int.tmod x4 8)) = (K : Int)) (hbd : ∀ i, i < K → 0 ≤ hid (rowW x5 p.length) (fB x5) (p.map (g x3)) i ∧ hid (rowW x5 p.length) (fB x5) (p.map (g x3)) i ≤ 100000000) :
    ∀ (m f i : Nat) (s : Int) (Z : List (List Int)), i + m = K → m < f → -100000000000000 ≤ s - m * 100000000000 → s + m * 100000000000 ≤ 100000000000000 →
      f4_l0 x3 x4 x5 x6 (w, h, p) f s (i : Int) ((List.range' 0 i).map (fB x5)) Z [(List.range' 0 i).map (fB x6)] ((List.range' 0 i).map (rowW x5 p.length)) =
        some (acc s (((List.range' 0 K).map (fB x6)).drop i) (((List.range' 0 K).map (hid (rowW x5 p.length) (fB x5) (p.map (g x3)))).drop i), (List.range' 0 K).map (fB x5), (List.range' 0 K).map (rowW x5 p.length), [(List.range' 0 K).map (fB x6)]) := by
  have hm : w * h ≤ 4 * 4 := Int.mul_le_mul hw.2 hh.2 (by omega) (by omega)
  intro m
  induction m with
  | zero =>
    intro f i s Z h1 h2 _ _
    obtain ⟨f, rfl⟩ : ∃ j, f = j + 1 := ⟨f - 1, by omega⟩
    rw [f4_l0, hk, if_neg (by omega), List.drop_eq_nil_of_le (by simp; omega), show i = K by omega]
    simp [acc]
  | succ m ih =>
    intro f i s Z h1 h2 h3 h4
    obtain ⟨f, rfl⟩ : ∃ j, f = j + 1 := ⟨f - 1, by omega⟩
    have hi : i < K := by omega
    have b5 := wt_in (i := (i : Int)) h5 (by omega) (by omega)
    have b6 := wt_in (i := (i : Int)) h6 (by omega) (by omega)
    have hb := hbd i hi
    have l1 := f4_l1_law (i := i) hw hh hd h5 hl hv (by omega) p.length FUEL 0 (wt x5 (i : Int)) (by omega) (by rw [FUEL_eq]; omega) (by omega) (by omega)
    replace l1 : f4_l1 x3 x5 (w, h, p) (i : Int) FUEL (wt x5 (i : Int)) 0 [] = some (acc (wt x5 (i : Int)) (rowW x5 p.length i) (p.map (g x3)), rowW x5 p.length i) := l1
    have hmx : max 0 (acc (wt x5 (i : Int)) (rowW x5 p.length i) (p.map (g x3))) = hid (rowW x5 p.length) (fB x5) (p.map (g x3)) i := by
      unfold hid fB; omega
    have cat : ∀ {E : Type} (f : Nat → E), (List.range' 0 i).map f ++ [f i] = (List.range' 0 (i + 1)).map f := by
      intro E f; rw [List.range'_concat]; simp
    have hmul := mulb (a := wt x6 (i : Int)) (b := hid (rowW x5 p.length) (fB x5) (p.map (g x3)) i) (A := 128) (B := 100000000) (by omega) (by omega)
    have ex0 : at' [(List.range' 0 i).map (fB x6)] (0 : Int) = (List.range' 0 i).map (fB x6) := rfl
    have es : ∀ y z : List Int, [y].set (0 : Int).toNat z = [z] := fun y z => rfl
    rw [f4_l0, hk, if_pos (by omega), f11_law h5 (by omega)]
    simp only [Option.bind_some]
    rw [l1]
    simp only [Option.bind_some]
    rw [if_pos (by simp; omega), if_pos (by simp; omega), if_pos (by simp), f11_law h6 (by omega)]
    simp only [Option.bind_some]
    rw [ex0, if_pos (by simp; omega)]
    simp only [Option.bind_some]
    rw [hmx, es, w64s (x := wt x6 (i : Int) * hid (rowW x5 p.length) (fB x5) (p.map (g x3)) i) (by omega) (by omega), w64s (x := s + wt x6 (i : Int) * hid (rowW x5 p.length) (fB x5) (p.map (g x3)) i) (by omega) (by omega), w64s (x := (i : Int) + 1) (by omega) (by omega)]
    rw [show (List.range' 0 i).map (fB x5) ++ [wt x5 (i : Int)] = (List.range' 0 (i + 1)).map (fB x5) from cat (fB x5), show (List.range' 0 i).map (fB x6) ++ [wt x6 (i : Int)] = (List.range' 0 (i + 1)).map (fB x6) from cat (fB x6), cat (rowW x5 p.length)]
    rw [acc_drop (x := 0) (y := 0) (j := i) (by simpa using hi) (by simpa using hi)]
    simp only [List.getElem_map, List.getElem_range', Nat.one_mul, Nat.zero_add]
    exact ih f (i + 1) _ _ (by omega) (by omega) (by omega) (by omega)
end Go.HL.Tz
