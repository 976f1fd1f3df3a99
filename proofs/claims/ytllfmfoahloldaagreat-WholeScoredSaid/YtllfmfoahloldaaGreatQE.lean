/- The plain law of the judge, second part: features, score, certificate. -/
import Derived.Test.YtllfmfoahloldaaGreatQD
set_option linter.unusedVariables false
set_option linter.unusedSimpArgs false
namespace Go.HL.Tz
open Go.HL
variable {w h : Int} {k : Nat} {row : Nat → List Int} {b : Nat → Int} {v : List Int} {c low high : Int}
theorem range_self {E : Type} [Inhabited E] (xs : List E) : (List.range' 0 xs.length).map (fun (j : Nat) => at' xs j) = xs := by
  have := range_map_at xs (fun x => x)
  simpa using this
theorem f22_law (N : Net w h k row b v c low high) {p : List Int} (hp : Pix w h p) : f22_m w h w h (lays k row b v c) low high w h p = some p := by
  have hw := N.hw; have hh := N.hh
  have hm : w * h ≤ 4 * 4 := Int.mul_le_mul hw.2 hh.2 (by omega) (by omega)
  have hm0 : 0 ≤ w * h := Int.mul_nonneg (by omega) (by omega)
  have hl := hp.1
  have key : ∀ (m k i : Nat), i + m = p.length → m < k → f22_l0 w h w h w p k (i : Int) ((List.range' 0 i).map (fun (j : Nat) => at' p j) ++ List.replicate m 0) = some p := by
    intro m
    induction m with
    | zero =>
      intro k i h1 h2
      obtain ⟨k, rfl⟩ : ∃ j, k = j + 1 := ⟨k - 1, by omega⟩
      rw [f22_l0, if_neg (by omega), List.replicate_zero, List.append_nil, show i = p.length by omega, range_self]
    | succ m ih =>
      intro k i h1 h2
      obtain ⟨k, rfl⟩ : ∃ j, k = j + 1 := ⟨k - 1, by omega⟩
      have t1 : w64 (Int.tdiv h h) = 1 := by rw [Int.tdiv_self (by omega)]; rfl
      have t2 : w64 (Int.tdiv w w) = 1 := by rw [Int.tdiv_self (by omega)]; rfl
      have d1 : Int.tdiv (i : Int) w = (i : Int) / w := Int.tdiv_eq_ediv_of_nonneg (by omega)
      have d2 : Int.tmod (i : Int) w = (i : Int) % w := Int.tmod_eq_emod_of_nonneg (by omega)
      have e1 : (i : Int) / w * w + (i : Int) % w = i := Int.ediv_mul_add_emod _ _
      have h3 := Int.emod_nonneg (i : Int) (show w ≠ 0 by omega)
      have h4 := Int.emod_lt_of_pos (i : Int) (show 0 < w by omega)
      have h5 : 0 ≤ (i : Int) / w := Int.ediv_nonneg (by omega) (by omega)
      have h6 : (i : Int) / w ≤ i := Int.ediv_le_self _ (by omega)
      have h7 : 0 ≤ (i : Int) / w * w := Int.mul_nonneg h5 (by omega)
      have idx : w64 ((w64 ((w64 (Int.tdiv (w64 (Int.tdiv (i : Int) w)) 1)) * w)) + (w64 (Int.tdiv (Int.tmod (i : Int) w) 1))) = i := by
        rw [Int.tdiv_one, Int.tdiv_one, d1, d2, w64s (x := (i : Int) / w) (by omega) (by omega), w64s (x := (i : Int) / w) (by omega) (by omega), w64s (x := (i : Int) % w) (by omega) (by omega), w64s (x := (i : Int) / w * w) (by omega) (by omega), e1, w64s (by omega) (by omega)]
      have hpv := hp.2 _ (at_mem p (i : Int) (by omega) (by omega))
      rw [f22_l0, if_pos (by omega), if_pos (by omega), if_pos (by omega), t1, if_pos (by decide), if_pos (by omega), t2, if_pos (by decide), idx, fill_len, if_pos (by omega), if_pos (by omega), fill_at, Int.zero_add, w64s (x := at' p (i : Int)) (by omega) (by omega), Int.toNat_natCast, fill_step (fun (j : Nat) => at' p j), w64s (by omega) (by omega)]
      exact ih k (i + 1) (by omega) (by omega)
  unfold f22_m
  have k0 := key p.length FUEL 0 (by omega) (by rw [FUEL_eq]; omega)
  rw [w64s (by omega) (by omega), if_pos (by omega), if_pos (by omega), if_pos (by omega), show (w * h).toNat = p.length by omega]
  replace k0 : f22_l0 w h w h w p FUEL 0 (List.replicate p.length 0) = some p := k0
  rw [k0]
  rfl
theorem acc_drop {a x y : Int} {r xs : List Int} {j : Nat} (h1 : j < r.length) (h2 : j < xs.length) : acc a (r.drop j) (xs.drop j) = acc (a + r[j] * xs[j]) (r.drop (j + 1)) (xs.drop (j + 1)) := by
  rw [List.drop_eq_getElem_cons h1, List.drop_eq_getElem_cons h2, acc]
theorem acc_bound {X : Int} (hX : 0 ≤ X) : ∀ (r xs : List Int) (a : Int), (∀ y ∈ r, -1000 ≤ y ∧ y ≤ 1000) → (∀ y ∈ xs, -X ≤ y ∧ y ≤ X) → a - r.length * (1000 * X) ≤ acc a r xs ∧ acc a r xs ≤ a + r.length * (1000 * X)
  | [], xs, a, _, _ => by simp [acc]
  | y :: r, [], a, _, _ => by
    have : 0 ≤ ((y :: r).length : Int) * (1000 * X) := Int.mul_nonneg (by omega) (by omega)
    simp only [acc]; omega
  | y :: r, x :: xs, a, h1, h2 => by
    have ih := acc_bound hX r xs (a + y * x) (fun z hz => h1 z (List.mem_cons_of_mem _ hz)) (fun z hz => h2 z (List.mem_cons_of_mem _ hz))
    have hb := mulb (h1 y List.mem_cons_self) (h2 x List.mem_cons_self)
    have e : (((y :: r).length : Nat) : Int) * (1000 * X) = (r.length : Int) * (1000 * X) + 1000 * X := by
      rw [List.length_cons, Int.natCast_add, Int.add_mul]; simp
    rw [acc, e]; omega
theorem f23_l2_law {L : List (List (List Int) × List Int)} {xs r : List Int} {t u : Int} (hr : at' (at' L t).1 u = r) (hl : r.length = xs.length) (hl2 : r.length ≤ 1000) (hv : ∀ y ∈ r, -1000 ≤ y ∧ y ≤ 1000) (hx : ∀ y ∈ xs, -100000000 ≤ y ∧ y ≤ 100000000) :
    ∀ (m k j : Nat) (a : Int), j + m = r.length → m < k → -100000000000000 ≤ a - m * 100000000000 → a + m * 100000000000 ≤ 100000000000000 → f23_l2 L xs t u k a (j : Int) = some (acc a (r.drop j) (xs.drop j)) := by
  intro m
  induction m with
  | zero =>
    intro k j a h1 h2 _ _
    obtain ⟨k, rfl⟩ : ∃ j, k = j + 1 := ⟨k - 1, by omega⟩
    rw [f23_l2, hr, if_neg (by omega), List.drop_eq_nil_of_le (by omega)]
    simp [acc]
  | succ m ih =>
    intro k j a h1 h2 h3 h4
    obtain ⟨k, rfl⟩ : ∃ j, k = j + 1 := ⟨k - 1, by omega⟩
    have b1 := hv _ (at_mem r (j : Int) (by omega) (by omega))
    have b2 := hx _ (at_mem xs (j : Int) (by omega) (by omega))
    have hb := mulb b1 b2
    rw [acc_drop (x := 0) (y := 0) (by omega) (by omega), ← at_nat r j (by omega), ← at_nat xs j (by omega)]
    rw [f23_l2, hr, if_pos (by omega), if_pos (by omega), if_pos (by omega), f307_m]
    simp only [Option.bind_some]
    rw [w64s (x := at' r (j : Int) * at' xs (j : Int)) (by omega) (by omega), w64s (x := a + at' r (j : Int) * at' xs (j : Int)) (by omega) (by omega), w64s (x := (j : Int) + 1) (by omega) (by omega)]
    exact ih k (j + 1) _ (by omega) (by omega) (by omega) (by omega)
/-- What the first layer hands on. -/
def hid (row : Nat → List Int) (b : Nat → Int) (p : List Int) (i : Nat) : Int := max (acc (b i) (row i) p) 0
def score (k : Nat) (row : Nat → List Int) (b : Nat → Int) (v : List Int) (c : Int) (p : List Int) : Int := acc c v ((List.range' 0 k).map (hid row b p))
theorem hid_bound (N : Net w h k row b v c low high) {p : List Int} (hp : Pix w h p) {i : Nat} (hi : i < k) : (-100000000 ≤ acc (b i) (row i) p ∧ acc (b i) (row i) p ≤ 100000000) ∧ 0 ≤ hid row b p i ∧ hid row b p i ≤ 100000000 := by
  have hw := N.hw; have hh := N.hh
  have hm : w * h ≤ 4 * 4 := Int.mul_le_mul hw.2 hh.2 (by omega) (by omega)
  have hb := N.hb i hi
  have hl := N.rl i hi
  have h1 := acc_bound (X := 255) (by omega) (row i) p (b i) (N.rv i hi) (fun y hy => by have := hp.2 y hy; omega)
  unfold hid
  omega
theorem f23_law (N : Net w h k row b v c low high) {p : List Int} (hp : Pix w h p) : f23_m w h w h (lays k row b v c) low high p = some (score k row b v c p) := by
  have hw := N.hw; have hh := N.hh; have hk := N.hk
  have hm : w * h ≤ 4 * 4 := Int.mul_le_mul hw.2 hh.2 (by omega) (by omega)
  have hl := hp.1
  have a0 : at' (lays k row b v c) 0 = ((List.range' 0 k).map row, (List.range' 0 k).map b) := rfl
  have a1 : at' (lays k row b v c) 1 = ([v], [c]) := rfl
  have lay0 : ∀ (m f i : Nat), i + m = k → m < f → f23_l1 (lays k row b v c) p 0 f (i : Int) ((List.range' 0 i).map (hid row b p) ++ List.replicate m 0) = some ((List.range' 0 k).map (hid row b p)) := by
    intro m
    induction m with
    | zero =>
      intro f i h1 h2
      obtain ⟨f, rfl⟩ : ∃ j, f = j + 1 := ⟨f - 1, by omega⟩
      rw [f23_l1, a0, if_neg (by simp; omega), List.replicate_zero, List.append_nil, show i = k by omega]
    | succ m ih =>
      intro f i h1 h2
      obtain ⟨f, rfl⟩ : ∃ j, f = j + 1 := ⟨f - 1, by omega⟩
      have hik : i < k := by omega
      have hb := N.hb i hik
      have hrl := N.rl i hik
      have hd := (hid_bound N hp hik).2
      have l2 := f23_l2_law (L := lays k row b v c) (t := 0) (u := i) (r := row i) (xs := p) (by rw [a0, at_range row hik]) (by omega) (by omega) (N.rv i hik) (fun y hy => by have := hp.2 y hy; omega) (row i).length FUEL 0 (b i) (by omega) (by rw [FUEL_eq]; omega) (by omega) (by omega)
      rw [f23_l1, a0, if_pos (by simp; omega), if_pos (by simp; omega), at_range b hik, f24_m]
      simp only [Option.bind_some]
      rw [show ((0 : Nat) : Int) = 0 from rfl] at l2
      rw [if_pos (by simp; omega), l2]
      simp only [Option.bind_some, List.drop_zero]
      rw [if_pos (by simp [w64s]), f306_m]
      simp only [Option.bind_some]
      rw [fill_len, if_pos (by omega)]
      simp only [Option.bind_some]
      rw [Int.toNat_natCast, show max (acc (b i) (row i) p) 0 = hid row b p i from rfl, fill_step (hid row b p), w64s (by omega) (by omega)]
      exact ih f (i + 1) (by omega) (by omega)
  have hxs : ∀ y ∈ (List.range' 0 k).map (hid row b p), -100000000 ≤ y ∧ y ≤ 100000000 := by
    intro y hy
    obtain ⟨i, hi, rfl⟩ := List.mem_map.1 hy
    have := (hid_bound N hp (by simpa using hi)).2
    omega
  have hc := N.hc
  have l2 := f23_l2_law (L := lays k row b v c) (t := 1) (u := 0) (r := v) (xs := (List.range' 0 k).map (hid row b p)) (by rw [a1]; rfl) (by simp [N.vl]) (by have := N.vl; omega) N.vv hxs v.length FUEL 0 c (by omega) (by have := N.vl; rw [FUEL_eq]; omega) (by have := N.vl; omega) (by have := N.vl; omega)
  have l0 := lay0 k FUEL 0 (by omega) (by rw [FUEL_eq]; omega)
  simp only [List.range'_zero, List.map_nil, List.nil_append] at l0
  rw [show ((0 : Nat) : Int) = 0 from rfl] at l0 l2
  have lay1 : f23_l1 (lays k row b v c) ((List.range' 0 k).map (hid row b p)) 1 FUEL 0 [0] = some [score k row b v c p] := by
    obtain ⟨q, hq, _⟩ := fuel 2 (by omega)
    rw [hq, f23_l1, a1, if_pos (by simp), if_pos (by simp), show at' [c] (0 : Int) = c from rfl, f24_m]
    simp only [Option.bind_some]
    rw [if_pos (by simp), l2]
    simp only [Option.bind_some, List.drop_zero]
    rw [if_neg (by simp [w64s]), if_pos (by simp)]
    simp only [Option.bind_some]
    rw [show w64 (0 + 1) = 1 from rfl, f23_l1, a1, if_neg (by simp)]
    rfl
  unfold f23_m
  obtain ⟨q, hq, _⟩ := fuel 2 (by omega)
  have lz : f23_l0 (lays k row b v c) FUEL p 0 = some [score k row b v c p] := by
    rw [hq, f23_l0, a0, if_pos (by simp), if_pos (by simp), if_pos (by simp; omega), show (((List.range' 0 k).map b).length : Int).toNat = k by simp, l0]
    simp only [Option.bind_some]
    rw [show w64 (0 + 1) = 1 from rfl, f23_l0, a1, if_pos (by simp), if_pos (by simp), if_pos (by simp), show List.replicate (([c].length : Nat) : Int).toNat (0 : Int) = [0] from rfl, lay1]
    simp only [Option.bind_some]
    rw [show w64 (1 + 1) = 2 from rfl, f23_l0, if_neg (by simp)]
  rw [lz]
  simp only [Option.bind_some]
  rw [if_pos (by simp)]
  rfl
def verdict (low high s : Int) : Int := if high ≤ s then 1 else if s ≤ low then 2 else 3
theorem f12_law (N : Net w h k row b v c low high) {p : List Int} (hp : Pix w h p) :
    f12_m w h w h (lays k row b v c) low high w h p = some (score k row b v c p, verdict low high (score k row b v c p), 0) := by
  have hw := N.hw; have hh := N.hh
  have hm : w * h ≤ 4 * 4 := Int.mul_le_mul hw.2 hh.2 (by omega) (by omega)
  have hl := hp.1
  have key : ∀ (m f i : Nat), i + m = p.length → m < f → f12_l0 p f (i : Int) (p.take i) = some p := by
    intro m
    induction m with
    | zero =>
      intro f i h1 h2
      obtain ⟨f, rfl⟩ : ∃ j, f = j + 1 := ⟨f - 1, by omega⟩
      rw [f12_l0, if_neg (by omega), List.take_of_length_le (by omega)]
    | succ m ih =>
      intro f i h1 h2
      obtain ⟨f, rfl⟩ : ∃ j, f = j + 1 := ⟨f - 1, by omega⟩
      rw [f12_l0, if_pos (by omega), if_pos (by omega), if_pos (by simp; omega), w64s (by omega) (by omega), at_nat p i (by omega), List.take_append_getElem (by omega)]
      exact ih f (i + 1) (by omega) (by omega)
  have k0 := key p.length FUEL 0 (by omega) (by rw [FUEL_eq]; omega)
  rw [List.take_zero, show ((0 : Nat) : Int) = 0 from rfl] at k0
  unfold f12_m
  rw [f21_law1 N hp]
  simp only [Option.bind_some]
  rw [if_neg (by decide), f22_law N hp]
  simp only [Option.bind_some]
  rw [k0]
  simp only [Option.bind_some]
  rw [f23_law N hp]
  simp only [Option.bind_some]
  unfold f25_m verdict
  split
  · rfl
  · split <;> rfl
theorem f51_l2_law {L : List (List (List Int) × List Int)} {xs r : List Int} {t u : Int} (hr : at' (at' L t).1 u = r) (hl : r.length = xs.length) (hl2 : r.length ≤ 1000) (hv : ∀ y ∈ r, -1000 ≤ y ∧ y ≤ 1000) (hx : ∀ y ∈ xs, -100000000 ≤ y ∧ y ≤ 100000000) :
    ∀ (m k j : Nat) (a : Int), j + m = r.length → m < k → -100000000000000 ≤ a - m * 100000000000 → a + m * 100000000000 ≤ 100000000000000 → f51_l2 L (xs.map fun x => (x, x)) t u k (j : Int) a a = some (acc a (r.drop j) (xs.drop j), acc a (r.drop j) (xs.drop j)) := by
  intro m
  induction m with
  | zero =>
    intro k j a h1 h2 _ _
    obtain ⟨k, rfl⟩ : ∃ j, k = j + 1 := ⟨k - 1, by omega⟩
    rw [f51_l2, hr, if_neg (by omega), List.drop_eq_nil_of_le (by omega)]
    simp [acc]
  | succ m ih =>
    intro k j a h1 h2 h3 h4
    obtain ⟨k, rfl⟩ : ∃ j, k = j + 1 := ⟨k - 1, by omega⟩
    have b1 := hv _ (at_mem r (j : Int) (by omega) (by omega))
    have b2 := hx _ (at_mem xs (j : Int) (by omega) (by omega))
    have hb := mulb b1 b2
    have hm : at' (xs.map fun x => (x, x)) (j : Int) = (at' xs (j : Int), at' xs (j : Int)) := by
      rw [at_nat _ j (by simp; omega), at_nat xs j (by omega)]; simp
    have e1 : w64 (a + w64 (at' r (j : Int) * at' xs (j : Int))) = a + at' r (j : Int) * at' xs (j : Int) := by
      rw [w64s (x := at' r (j : Int) * at' xs (j : Int)) (by omega) (by omega), w64s (by omega) (by omega)]
    have e2 : f309_m a a (at' r (j : Int)) (at' xs (j : Int)) (at' xs (j : Int)) = some (a + at' r (j : Int) * at' xs (j : Int), a + at' r (j : Int) * at' xs (j : Int)) := by
      unfold f309_m; rw [e1]; split <;> rfl
    rw [acc_drop (x := 0) (y := 0) (by omega) (by omega), ← at_nat r j (by omega), ← at_nat xs j (by omega)]
    rw [f51_l2, hr, if_pos (by omega), if_pos (by omega), if_pos (by simp; omega), hm, e2]
    simp only [Option.bind_some]
    rw [w64s (x := (j : Int) + 1) (by omega) (by omega)]
    exact ih k (j + 1) _ (by omega) (by omega) (by omega) (by omega)
theorem f51_law (N : Net w h k row b v c low high) {p : List Int} (hp : Pix w h p) : f51_m w h w h (lays k row b v c) low high (p.map fun x => (x, x)) = some (score k row b v c p, score k row b v c p) := by
  have hw := N.hw; have hh := N.hh; have hk := N.hk
  have hm : w * h ≤ 4 * 4 := Int.mul_le_mul hw.2 hh.2 (by omega) (by omega)
  have hl := hp.1
  have a0 : at' (lays k row b v c) 0 = ((List.range' 0 k).map row, (List.range' 0 k).map b) := rfl
  have a1 : at' (lays k row b v c) 1 = ([v], [c]) := rfl
  have lay0 : ∀ (m f i : Nat), i + m = k → m < f → f51_l1 (lays k row b v c) (p.map fun x => (x, x)) 0 f (i : Int) ((List.range' 0 i).map (fun j => (hid row b p j, hid row b p j)) ++ List.replicate m (0, 0)) = some ((List.range' 0 k).map (fun j => (hid row b p j, hid row b p j))) := by
    intro m
    induction m with
    | zero =>
      intro f i h1 h2
      obtain ⟨f, rfl⟩ : ∃ j, f = j + 1 := ⟨f - 1, by omega⟩
      rw [f51_l1, a0, if_neg (by simp; omega), List.replicate_zero, List.append_nil, show i = k by omega]
    | succ m ih =>
      intro f i h1 h2
      obtain ⟨f, rfl⟩ : ∃ j, f = j + 1 := ⟨f - 1, by omega⟩
      have hik : i < k := by omega
      have hb := N.hb i hik
      have hrl := N.rl i hik
      have l2 := f51_l2_law (L := lays k row b v c) (t := 0) (u := i) (r := row i) (xs := p) (by rw [a0, at_range row hik]) (by omega) (by omega) (N.rv i hik) (fun y hy => by have := hp.2 y hy; omega) (row i).length FUEL 0 (b i) (by omega) (by rw [FUEL_eq]; omega) (by omega) (by omega)
      rw [f51_l1, a0, if_pos (by simp; omega), if_pos (by simp; omega), at_range b hik, f52_m]
      simp only [Option.bind_some]
      rw [show ((0 : Nat) : Int) = 0 from rfl] at l2
      rw [if_pos (by simp; omega), l2]
      simp only [Option.bind_some, List.drop_zero]
      rw [if_pos (by simp [w64s]), f308_m]
      simp only [Option.bind_some]
      rw [fill_len, if_pos (by omega)]
      simp only [Option.bind_some]
      rw [Int.toNat_natCast, show max (acc (b i) (row i) p) 0 = hid row b p i from rfl, fill_step (fun j => (hid row b p j, hid row b p j)), w64s (by omega) (by omega)]
      exact ih f (i + 1) (by omega) (by omega)
  have hxs : ∀ y ∈ (List.range' 0 k).map (hid row b p), -100000000 ≤ y ∧ y ≤ 100000000 := by
    intro y hy
    obtain ⟨i, hi, rfl⟩ := List.mem_map.1 hy
    have := (hid_bound N hp (by simpa using hi)).2
    omega
  have hc := N.hc
  have l2 := f51_l2_law (L := lays k row b v c) (t := 1) (u := 0) (r := v) (xs := (List.range' 0 k).map (hid row b p)) (by rw [a1]; rfl) (by simp [N.vl]) (by have := N.vl; omega) N.vv hxs v.length FUEL 0 c (by omega) (by have := N.vl; rw [FUEL_eq]; omega) (by have := N.vl; omega) (by have := N.vl; omega)
  have l0 := lay0 k FUEL 0 (by omega) (by rw [FUEL_eq]; omega)
  simp only [List.range'_zero, List.map_nil, List.nil_append] at l0
  rw [show ((0 : Nat) : Int) = 0 from rfl] at l0 l2
  have em : (List.range' 0 k).map (fun j => (hid row b p j, hid row b p j)) = ((List.range' 0 k).map (hid row b p)).map fun x => (x, x) := by rw [List.map_map]; rfl
  rw [em] at l0
  have lay1 : f51_l1 (lays k row b v c) (((List.range' 0 k).map (hid row b p)).map fun x => (x, x)) 1 FUEL 0 [(0, 0)] = some [(score k row b v c p, score k row b v c p)] := by
    obtain ⟨q, hq, _⟩ := fuel 2 (by omega)
    rw [hq, f51_l1, a1, if_pos (by simp), if_pos (by simp), show at' [c] (0 : Int) = c from rfl, f52_m]
    simp only [Option.bind_some]
    rw [if_pos (by simp), l2]
    simp only [Option.bind_some, List.drop_zero]
    rw [if_neg (by simp [w64s]), if_pos (by simp)]
    simp only [Option.bind_some]
    rw [show w64 (0 + 1) = 1 from rfl, f51_l1, a1, if_neg (by simp)]
    rfl
  unfold f51_m
  obtain ⟨q, hq, _⟩ := fuel 2 (by omega)
  have lz : f51_l0 (lays k row b v c) FUEL (p.map fun x => (x, x)) 0 = some [(score k row b v c p, score k row b v c p)] := by
    rw [hq, f51_l0, a0, if_pos (by simp), if_pos (by simp), if_pos (by simp; omega), show (((List.range' 0 k).map b).length : Int).toNat = k by simp, l0]
    simp only [Option.bind_some]
    rw [show w64 (0 + 1) = 1 from rfl, f51_l0, a1, if_pos (by simp), if_pos (by simp), if_pos (by simp), show List.replicate (([c].length : Nat) : Int).toNat (((0, 0) : Int × Int)) = [(0, 0)] from rfl, lay1]
    simp only [Option.bind_some]
    rw [show w64 (1 + 1) = 2 from rfl, f51_l0, if_neg (by simp)]
  rw [lz]
  simp only [Option.bind_some]
  rw [if_pos (by simp)]
  rfl
end Go.HL.Tz
