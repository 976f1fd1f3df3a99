/- The plain law of the image's point step: what the models of its functions answer; no program in sight. -/
import Derived.Test.YtllfmfoahloldaaGreatZA
set_option linter.unusedVariables false
set_option linter.unusedSimpArgs false
namespace Go.HL.Tz
open Go.HL
theorem w64s {x : Int} (h0 : -1000000000000000 ≤ x) (h1 : x ≤ 1000000000000000) : w64 x = x := w64_id (by omega) (by omega)
theorem at_nat {E : Type} [Inhabited E] (xs : List E) (i : Nat) (h : i < xs.length) : at' xs (i : Int) = xs[i] := by
  unfold at'
  rw [show ((i : Int)).toNat = i from rfl, List.getD_eq_getElem?_getD, List.getElem?_eq_getElem h]
  rfl
theorem at_int {E : Type} [Inhabited E] (xs : List E) (i : Int) (h0 : 0 ≤ i) (h : i < (xs.length : Int)) : at' xs i = xs[i.toNat]'(by omega) := by
  unfold at'
  rw [List.getD_eq_getElem?_getD, List.getElem?_eq_getElem (by omega)]
  rfl
theorem at_mem {E : Type} [Inhabited E] (xs : List E) (i : Int) (h0 : 0 ≤ i) (h : i < (xs.length : Int)) : at' xs i ∈ xs := by
  rw [at_int xs i h0 h]; exact List.getElem_mem _
theorem fuel (n : Nat) (h : n < 1000000) : ∃ k, FUEL = k + n + 1 ∧ 1000000 < k := ⟨1000000000 - n - 1, by rw [FUEL_eq]; omega, by omega⟩
theorem f86_law {a b : Int} {xs : List Int} (hl : xs.length ≤ 1000000) (h : ∀ y ∈ xs, a ≤ y ∧ y ≤ b) : f86_m a b xs = some true := by
  have key : ∀ (m k : Nat) (t : Int), 0 ≤ t → t + m = xs.length → m < k → f86_l0 a b xs k t = some (.inl ()) := by
    intro m
    induction m with
    | zero =>
      intro k t h0 h1 h2
      obtain ⟨k, rfl⟩ : ∃ j, k = j + 1 := ⟨k - 1, by omega⟩
      rw [f86_l0, if_neg (by omega)]
    | succ m ih =>
      intro k t h0 h1 h2
      obtain ⟨k, rfl⟩ : ∃ j, k = j + 1 := ⟨k - 1, by omega⟩
      have hy := h _ (at_mem xs t h0 (by omega))
      rw [f86_l0, if_pos (by omega), if_pos ⟨h0, by omega⟩, if_neg (by omega), decide_eq_false (by omega)]
      simp only [Option.bind_some]
      rw [if_neg (by decide), w64s (by omega) (by omega)]
      exact ih k (t + 1) (by omega) (by omega) (by omega)
  unfold f86_m
  rw [key xs.length FUEL 0 (by omega) (by omega) (by rw [FUEL_eq]; omega)]
  rfl
theorem f85_law {w h : Int} {pix : List Int} (hw : 1 ≤ w ∧ w ≤ 16) (hh : 1 ≤ h ∧ h ≤ 16) (hp : (pix.length : Int) = w * h) (hv : ∀ y ∈ pix, -2147483648 ≤ y ∧ y ≤ 2147483648) : f85_m w h pix = some true := by
  have hm : w * h ≤ 16 * 16 := Int.mul_le_mul hw.2 hh.2 (by omega) (by omega)
  have hm0 : 0 ≤ w * h := Int.mul_nonneg (by omega) (by omega)
  unfold f85_m
  rw [f86_law (xs := [w, h]) (by simp) (by intro y hy; simp at hy; omega), w64s (by omega) (by omega)]
  simp only [Option.bind_some, if_true]
  rw [decide_eq_true hp]
  simp only [Option.bind_some, if_true]
  rw [f86_law (by omega) hv]
  rfl
theorem f74_law {w h : Int} {pix : List Int} (hw : 1 ≤ w ∧ w ≤ 16) (hh : 1 ≤ h ∧ h ≤ 16) (hp : (pix.length : Int) = w * h) (hv : ∀ y ∈ pix, -2147483648 ≤ y ∧ y ≤ 2147483648) : f74_m w h pix = some 0 := by
  unfold f74_m
  rw [f85_law hw hh hp hv]; rfl
/-- What a point step makes of a pixel. -/
def pt (mul add div lo hi p : Int) : Int := max lo (min ((mul * p + add) / div) hi)
theorem floor_law {x b : Int} (hx : -1000000000000000 ≤ x ∧ x ≤ 1000000000000000) (hb : 1 ≤ b ∧ b ≤ 65536) : f90_m x b = some (x / b) := by
  have e1 : x.tdiv b * b + x.tmod b = x := Int.tdiv_mul_add_tmod x b
  have e2 : x / b * b + x % b = x := Int.ediv_mul_add_emod x b
  have h3 := Int.emod_nonneg x (show b ≠ 0 by omega)
  have h4 := Int.emod_lt_of_pos x (show 0 < b by omega)
  have hq : -1000000000000000 ≤ x / b ∧ x / b ≤ 1000000000000000 := by
    constructor
    · have : -1000000000000000 * b ≤ x := by omega
      exact (Int.le_ediv_iff_mul_le (by omega)).2 this
    · exact Int.ediv_le_of_le_mul (by omega) (by omega)
  by_cases h0 : 0 ≤ x
  · have et : x.tdiv b = x / b := Int.tdiv_eq_ediv_of_nonneg h0
    unfold f90_m
    rw [if_pos (by omega), et, w64s (x := x / b) (by omega) (by omega), w64s (x := x / b * b) (by omega) (by omega), if_neg (by omega)]
  · have ht0 : x.tmod b ≤ 0 := by
      have := Int.tmod_nonneg b (show 0 ≤ -x by omega)
      rw [Int.neg_tmod] at this; omega
    have ht1 : -b < x.tmod b := by
      have := Int.tmod_lt_of_pos (-x) (show 0 < b by omega)
      rw [Int.neg_tmod] at this; omega
    have hqt : x.tdiv b ≤ 0 := by
      have : 0 ≤ (-x).tdiv b := Int.tdiv_nonneg (by omega) (by omega)
      rw [Int.neg_tdiv] at this; omega
    unfold f90_m
    by_cases hr : x.tmod b = 0
    · have : x.tdiv b = x / b := by
        have h5 : (x / b - x.tdiv b) * b = - (x % b) := by rw [Int.sub_mul]; omega
        have h6 : x / b - x.tdiv b = 0 := by
          rcases Int.lt_trichotomy (x / b - x.tdiv b) 0 with h | h | h
          · have := Int.mul_le_mul_of_nonneg_right (show x / b - x.tdiv b ≤ -1 by omega) (show 0 ≤ b by omega)
            omega
          · exact h
          · have := Int.mul_le_mul_of_nonneg_right (show 1 ≤ x / b - x.tdiv b by omega) (show 0 ≤ b by omega)
            omega
        omega
      have e4 : x / b * b = x := by rw [this] at e1; omega
      rw [if_pos (by omega), this, w64s (x := x / b) (by omega) (by omega), e4, w64s (x := x) (by omega) (by omega), if_neg (by omega)]
    · have : x.tdiv b = x / b + 1 := by
        have h5 : (x / b + 1 - x.tdiv b) * b = b - x % b + x.tmod b := by rw [Int.sub_mul, Int.add_mul]; omega
        have h6 : x / b + 1 - x.tdiv b = 0 := by
          rcases Int.lt_trichotomy (x / b + 1 - x.tdiv b) 0 with h | h | h
          · have := Int.mul_le_mul_of_nonneg_right (show x / b + 1 - x.tdiv b ≤ -1 by omega) (show 0 ≤ b by omega)
            omega
          · exact h
          · have := Int.mul_le_mul_of_nonneg_right (show 1 ≤ x / b + 1 - x.tdiv b by omega) (show 0 ≤ b by omega)
            omega
        omega
      have e3 : (x / b + 1) * b = x - x.tmod b := by rw [← this]; omega
      rw [if_pos (by omega), this, w64s (x := x / b + 1) (by omega) (by omega), e3, w64s (x := x - x.tmod b) (by omega) (by omega), if_pos (by omega), w64s (x := x / b + 1 - 1) (by omega) (by omega)]
      congr 1; omega
theorem mulb {a b A B : Int} (ha : -A ≤ a ∧ a ≤ A) (hb : -B ≤ b ∧ b ≤ B) : -(A * B) ≤ a * b ∧ a * b ≤ A * B := by
  have hA : 0 ≤ A := by omega
  have hB : 0 ≤ B := by omega
  have h1 : (a * b).natAbs ≤ (A * B).natAbs := by
    rw [Int.natAbs_mul, Int.natAbs_mul]
    exact Nat.mul_le_mul (by omega) (by omega)
  have h2 : 0 ≤ A * B := Int.mul_nonneg hA hB
  omega
structure PtOk (mul add div lo hi : Int) : Prop where
  m : -65536 ≤ mul ∧ mul ≤ 65536
  a : -2147483648 ≤ add ∧ add ≤ 2147483648
  d : 1 ≤ div ∧ div ≤ 65536
  l : -2147483648 ≤ lo ∧ lo ≤ 2147483648
  h : -2147483648 ≤ hi ∧ hi ≤ 2147483648
  lh : lo ≤ hi
variable {mul add div lo hi : Int}
theorem pt_bound (ok : PtOk mul add div lo hi) (p : Int) : lo ≤ pt mul add div lo hi p ∧ pt mul add div lo hi p ≤ hi := by
  have := ok.lh
  unfold pt; omega
theorem f88_law (ok : PtOk mul add div lo hi) {w h : Int} {pix : List Int} (hw : 1 ≤ w ∧ w ≤ 16) (hh : 1 ≤ h ∧ h ≤ 16) (hp : (pix.length : Int) = w * h) (hv : ∀ y ∈ pix, -2147483648 ≤ y ∧ y ≤ 2147483648)
    {j : Nat} (hj : j < pix.length) : f88_m (pXY w j).1 (pXY w j).2 mul add div lo hi w h pix = some (pt mul add div lo hi (at' pix j)) := by
  have hm : w * h ≤ 16 * 16 := Int.mul_le_mul hw.2 hh.2 (by omega) (by omega)
  obtain ⟨wn, rfl⟩ := Int.eq_ofNat_of_zero_le (show 0 ≤ w by omega)
  have hw0 : 0 < wn := by omega
  have hjd : wn * (j / wn) + j % wn = j := Nat.div_add_mod j wn
  have e1 : (pXY (wn : Int) j).2 * wn + (pXY (wn : Int) j).1 = j := by
    unfold pXY
    simp only [Int.toNat_natCast]
    rw [Int.mul_comm]
    exact_mod_cast hjd
  have hx : 0 ≤ (pXY (wn : Int) j).1 ∧ 0 ≤ (pXY (wn : Int) j).2 := by
    unfold pXY; constructor <;> exact Int.natCast_nonneg _
  have hxy : 0 ≤ (pXY (wn : Int) j).2 * wn := Int.mul_nonneg hx.2 (by omega)
  have hb := hv _ (at_mem pix (j : Int) (by omega) (by omega))
  have hmul := mulb ok.m hb
  have ha := ok.a
  unfold f88_m f91_m
  rw [w64s (x := (pXY (wn : Int) j).2 * wn) (by omega) (by omega), w64s (x := (pXY (wn : Int) j).2 * wn + (pXY (wn : Int) j).1) (by omega) (by omega), e1, if_pos ⟨by omega, by omega⟩]
  simp only [Option.bind_some]
  rw [w64s (x := mul * at' pix (j : Int)) (by omega) (by omega), w64s (x := mul * at' pix (j : Int) + add) (by omega) (by omega), floor_law (by omega) ok.d]
  simp only [Option.bind_some, f89_m, pt]
theorem itFrom_app {E : Type} {step : Nat → List E → Option (List E)} (v : Nat → E) : ∀ (n j : Nat) (s : List E), (∀ i s, j ≤ i → i < j + n → s.length = i → step i s = some (s ++ [v i])) → s.length = j → itFrom step j n s = some (s ++ (List.range' j n).map v)
  | 0, j, s, _, _ => by simp [itFrom]
  | n + 1, j, s, h, hs => by
    rw [itFrom, h j s (Nat.le_refl _) (by omega) hs, Option.bind_some, itFrom_app v n (j + 1) (s ++ [v j]) (fun i s h1 h2 h3 => h i s (by omega) (by omega) h3) (by simp [hs])]
    simp [List.range'_succ]
theorem range_map_at {E F : Type} [Inhabited E] (xs : List E) (g : E → F) : (List.range' 0 xs.length).map (fun (j : Nat) => g (at' xs j)) = xs.map g := by
  apply List.ext_getElem
  · simp
  · intro i h1 h2
    simp only [List.length_map, List.length_range'] at h1
    simp only [List.getElem_map, List.getElem_range', Nat.one_mul, Nat.zero_add]
    rw [at_nat xs i h1]
theorem f49_law (ok : PtOk mul add div lo hi) {w h : Int} {pix : List Int} (hw : 1 ≤ w ∧ w ≤ 16) (hh : 1 ≤ h ∧ h ≤ 16) (hp : (pix.length : Int) = w * h) (hv : ∀ y ∈ pix, -2147483648 ≤ y ∧ y ≤ 2147483648) :
    f49_m w h pix mul add div lo hi = some (w, h, pix.map (pt mul add div lo hi), 0) := by
  have hm : w * h ≤ 16 * 16 := Int.mul_le_mul hw.2 hh.2 (by omega) (by omega)
  have hm0 : 0 ≤ w * h := Int.mul_nonneg (by omega) (by omega)
  have hN : pN w h = pix.length := by
    unfold pN
    have : ((h.toNat * w.toNat : Nat) : Int) = (pix.length : Int) := by
      rw [Int.natCast_mul, Int.toNat_of_nonneg (by omega), Int.toNat_of_nonneg (by omega), hp, Int.mul_comm]
    exact_mod_cast this
  have h87 : f87_m w h mul add div lo hi w h pix = some (w, h, pix.map (pt mul add div lo hi)) := by
    unfold f87_m
    rw [w64s (by omega) (by omega), if_pos ⟨by omega, by omega, by omega⟩, if_pos ⟨⟨by omega, by omega⟩, by omega, by omega⟩]
    rw [show List.replicate (0 : Int).toNat (0 : Int) = [] from rfl, hN, itFrom_app (fun j => pt mul add div lo hi (at' pix j)) pix.length 0 [] ?_ rfl, range_map_at]
    · rfl
    · intro i s _ h2 h3
      rw [Nat.zero_add] at h2
      unfold f87_s0
      rw [f88_law ok hw hh hp hv h2]
      simp only [Option.bind_some]
      have hb := pt_bound ok (at' pix (i : Int))
      have := ok.l; have := ok.h
      unfold f122_m f89_m
      simp only [Option.bind_some]
      rw [if_pos (by simp; omega), show max (-2147483648) (min (pt mul add div lo hi (at' pix (i : Int))) 2147483648) = pt mul add div lo hi (at' pix (i : Int)) by omega]
  unfold f49_m
  have := ok.m; have := ok.a; have := ok.d; have := ok.l; have := ok.h; have := ok.lh
  rw [f85_law hw hh hp hv]
  simp only [Option.bind_some]
  rw [if_neg (by decide), f86_law (xs := [mul]) (by simp) (by intro y hy; simp at hy; omega)]
  simp only [Option.bind_some]
  rw [if_neg (by decide), f86_law (xs := [add, lo, hi]) (by simp) (by intro y hy; simp at hy; omega)]
  simp only [Option.bind_some, Bool.not_true]
  rw [if_neg (by decide), f86_law (xs := [div]) (by simp) (by intro y hy; simp at hy; omega)]
  simp only [Option.bind_some, Bool.not_true]
  rw [if_neg (by decide), decide_eq_false (by omega)]
  simp only [Option.bind_some]
  rw [if_neg (by decide), h87]
  rfl
end Go.HL.Tz
