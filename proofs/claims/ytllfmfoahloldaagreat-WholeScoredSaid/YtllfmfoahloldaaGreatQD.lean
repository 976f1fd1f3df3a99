/- The plain law of the judge: a network of two layers whose features are the pixels. -/
import Derived.Test.YtllfmfoahloldaaGreatZK
import Derived.Test.YtllfmfoahloldaaGreatQA
set_option linter.unusedVariables false
set_option linter.unusedSimpArgs false
namespace Go.HL.Tz
open Go.HL
theorem f26_law {a b : Int} {xs : List Int} (hl : xs.length ≤ 1000000) (h : ∀ y ∈ xs, a ≤ y ∧ y ≤ b) : f26_m a b xs = some true := by
  have key : ∀ (m k : Nat) (t : Int), 0 ≤ t → t + m = xs.length → m < k → f26_l0 a b xs k t = some (.inl ()) := by
    intro m
    induction m with
    | zero =>
      intro k t h0 h1 h2
      obtain ⟨k, rfl⟩ : ∃ j, k = j + 1 := ⟨k - 1, by omega⟩
      rw [f26_l0, if_neg (by omega)]
    | succ m ih =>
      intro k t h0 h1 h2
      obtain ⟨k, rfl⟩ : ∃ j, k = j + 1 := ⟨k - 1, by omega⟩
      have hy := h _ (at_mem xs t h0 (by omega))
      rw [f26_l0, if_pos (by omega), if_pos ⟨h0, by omega⟩, if_neg (by omega), decide_eq_false (by omega)]
      simp only [Option.bind_some]
      rw [if_neg (by decide), w64s (by omega) (by omega)]
      exact ih k (t + 1) (by omega) (by omega) (by omega)
  unfold f26_m
  rw [key xs.length FUEL 0 (by omega) (by omega) (by rw [FUEL_eq]; omega)]
  rfl
theorem fill_step {E : Type} (f : Nat → E) (z : E) (i m : Nat) : ((List.range' 0 i).map f ++ List.replicate (m + 1) z).set i (f i) = (List.range' 0 (i + 1)).map f ++ List.replicate m z := by
  rw [List.range'_concat, List.map_append, List.set_append, if_neg (by simp)]
  simp [List.replicate_succ]
theorem fill_at {E : Type} [Inhabited E] (f : Nat → E) (z : E) (i m : Nat) : at' ((List.range' 0 i).map f ++ List.replicate (m + 1) z) (i : Int) = z := by
  rw [at_nat _ _ (by simp)]
  rw [List.getElem_append_right (by simp)]
  simp
theorem fill_len {E : Type} (f : Nat → E) (z : E) (i m : Nat) : ((List.range' 0 i).map f ++ List.replicate m z).length = i + m := by simp
/-- What a neuron sums. -/
def acc : Int → List Int → List Int → Int
  | a, w :: ws, x :: xs => acc (a + w * x) ws xs
  | a, _, _ => a
structure Net (w h : Int) (k : Nat) (row : Nat → List Int) (b : Nat → Int) (v : List Int) (c low high : Int) : Prop where
  hw : 1 ≤ w ∧ w ≤ 4
  hh : 1 ≤ h ∧ h ≤ 4
  hk : 1 ≤ k ∧ k ≤ 8
  rl : ∀ i, i < k → ((row i).length : Int) = w * h
  rv : ∀ i, i < k → ∀ y ∈ row i, -1000 ≤ y ∧ y ≤ 1000
  hb : ∀ i, i < k → -1000 ≤ b i ∧ b i ≤ 1000
  vl : v.length = k
  vv : ∀ y ∈ v, -1000 ≤ y ∧ y ≤ 1000
  hc : -1000 ≤ c ∧ c ≤ 1000
  lh : low < high
  l : -1000000000000 ≤ low
  hi : high ≤ 1000000000000
variable {w h : Int} {k : Nat} {row : Nat → List Int} {b : Nat → Int} {v : List Int} {c low high : Int}
abbrev lays (k : Nat) (row : Nat → List Int) (b : Nat → Int) (v : List Int) (c : Int) : List (List (List Int) × List Int) := [((List.range' 0 k).map row, (List.range' 0 k).map b), ([v], [c])]
theorem at_range {E : Type} [Inhabited E] (f : Nat → E) {k i : Nat} (h : i < k) : at' ((List.range' 0 k).map f) (i : Int) = f i := by
  rw [at_nat _ _ (by simpa using h)]; simp
theorem f50_l1_law {L : List (List (List Int) × List Int)} {n t : Int} {W : List (List Int)} (hW : (at' L t).1 = W) (hl : W.length ≤ 1000) (hr : ∀ r ∈ W, (r.length : Int) = n ∧ r.length ≤ 1000 ∧ ∀ y ∈ r, -1000 ≤ y ∧ y ≤ 1000) :
    ∀ (m k : Nat) (j : Int), 0 ≤ j → j + m = W.length → m < k → f50_l1 L n t k j = some (.inl ()) := by
  intro m
  induction m with
  | zero =>
    intro k j h0 h1 h2
    obtain ⟨k, rfl⟩ : ∃ j, k = j + 1 := ⟨k - 1, by omega⟩
    rw [f50_l1, hW, if_neg (by omega)]
  | succ m ih =>
    intro k j h0 h1 h2
    obtain ⟨k, rfl⟩ : ∃ j, k = j + 1 := ⟨k - 1, by omega⟩
    have hy := hr _ (at_mem W j h0 (by omega))
    rw [f50_l1, hW, if_pos (by omega), if_pos ⟨h0, by omega⟩, if_neg (fun hh => hh hy.1), f26_law (by omega) hy.2.2]
    simp only [Option.bind_some, Bool.not_true]
    rw [if_neg (by decide), w64s (by omega) (by omega)]
    exact ih k (j + 1) (by omega) (by omega) (by omega)
theorem f50_law (N : Net w h k row b v c low high) : f50_m w h w h (lays k row b v c) low high = some 0 := by
  have hw := N.hw; have hh := N.hh; have hk := N.hk; have hlh := N.lh; have hl := N.l; have hhi := N.hi
  have hm : w * h ≤ 4 * 4 := Int.mul_le_mul hw.2 hh.2 (by omega) (by omega)
  have hm0 : 0 ≤ w * h := Int.mul_nonneg (by omega) (by omega)
  have t1 : Int.tmod w w = 0 := Int.tmod_self
  have t2 : Int.tmod h h = 0 := Int.tmod_self
  have hlay : f50_l0 (lays k row b v c) FUEL (w64 (w * h)) 0 = some (.inl 1) := by
    obtain ⟨q, hq, hq1⟩ := fuel 2 (by omega)
    have a0 : at' (lays k row b v c) 0 = ((List.range' 0 k).map row, (List.range' 0 k).map b) := rfl
    have a1 : at' (lays k row b v c) 1 = ([v], [c]) := rfl
    have l1 : f50_l1 (lays k row b v c) (w64 (w * h)) 0 FUEL 0 = some (.inl ()) := by
      refine f50_l1_law (by rw [a0]) (by simp; omega) ?_ k FUEL 0 (by omega) (by simp) (by rw [FUEL_eq]; omega)
      intro r hr
      obtain ⟨i, hi, rfl⟩ := List.mem_map.1 hr
      have hi' : i < k := by simpa using hi
      have := N.rl i hi'
      exact ⟨by rw [w64s (by omega) (by omega)]; exact this, by omega, N.rv i hi'⟩
    have l2 : f50_l1 (lays k row b v c) ((((List.range' 0 k).map b).length : Nat) : Int) 1 FUEL 0 = some (.inl ()) := by
      refine f50_l1_law (by rw [a1]) (by simp) ?_ 1 FUEL 0 (by omega) (by simp) (by rw [FUEL_eq]; omega)
      intro r hr
      simp only [List.mem_singleton] at hr
      subst hr
      exact ⟨by simp [N.vl], by rw [N.vl]; omega, N.vv⟩
    rw [hq, f50_l0, a0, if_pos (by simp), if_pos (by simp), f26_law (xs := [_]) (by simp) (by intro y hy; simp at hy; omega)]
    simp only [Option.bind_some, Bool.not_true]
    rw [if_neg (by decide), decide_eq_false (by simp)]
    simp only [Option.bind_some]
    rw [if_neg (by decide), f26_law (xs := (List.range' 0 k).map b) (by simp; omega) (by
      intro y hy
      obtain ⟨i, hi, rfl⟩ := List.mem_map.1 hy
      have := N.hb i (by simpa using hi)
      omega)]
    simp only [Option.bind_some, Bool.not_true]
    rw [if_neg (by decide), l1]
    simp only [lb]
    rw [show w64 (0 + 1) = 1 from rfl, f50_l0, a1, if_pos (by simp), if_pos (by simp), f26_law (xs := [_]) (by simp) (by intro y hy; simp at hy; omega)]
    simp only [Option.bind_some, Bool.not_true]
    rw [if_neg (by decide), decide_eq_false (by simp)]
    simp only [Option.bind_some]
    rw [if_neg (by decide), f26_law (xs := [c]) (by simp) (by intro y hy; have := N.hc; simp at hy; omega)]
    simp only [Option.bind_some, Bool.not_true]
    rw [if_neg (by decide), l2]
    simp only [lb]
    rw [show w64 (1 + 1) = 2 from rfl, f50_l0, if_neg (by simp)]
    simp
  unfold f50_m
  rw [f26_law (xs := [w, h]) (by simp) (by intro y hy; simp at hy; omega)]
  simp only [Option.bind_some, Bool.not_true]
  rw [if_neg (by decide), f26_law (xs := [w, h]) (by simp) (by intro y hy; simp at hy; omega)]
  simp only [Option.bind_some, Bool.not_true]
  rw [if_neg (by decide), if_pos (by omega), decide_eq_false (by omega)]
  simp only [Option.bind_some]
  rw [if_neg (by decide), if_pos (by omega), decide_eq_false (by omega)]
  simp only [Option.bind_some]
  rw [if_neg (by decide), f26_law (xs := [_]) (by simp) (by intro y hy; simp at hy; omega)]
  simp only [Option.bind_some, Bool.not_true]
  rw [if_neg (by decide), hlay]
  simp only [lb]
  rw [if_neg (show ¬ ¬ True from fun h => h trivial), decide_eq_false (show ¬ (high ≤ low) by omega)]
  simp only [Option.bind_some]
  rw [if_neg (by decide), f26_law (xs := [low, high]) (by simp) (by intro y hy; simp at hy; omega)]
  rfl
def Pix (w h : Int) (p : List Int) : Prop := (p.length : Int) = w * h ∧ ∀ y ∈ p, 0 ≤ y ∧ y ≤ 255
theorem f21_law1 (N : Net w h k row b v c low high) {p : List Int} (hp : Pix w h p) : f21_m w h w h (lays k row b v c) low high [(w, h, p)] = some 0 := by
  have hw := N.hw; have hh := N.hh
  have hm : w * h ≤ 4 * 4 := Int.mul_le_mul hw.2 hh.2 (by omega) (by omega)
  have h74 : f74_m w h p = some 0 := f74_law (by omega) (by omega) hp.1 (fun y hy => by have := hp.2 y hy; omega)
  have h26 : f26_m 0 255 p = some true := f26_law (by have := hp.1; omega) hp.2
  obtain ⟨q, hq, _⟩ := fuel 3 (by omega)
  have h45 : f45_m [(w, h, p)] = some true := by
    unfold f45_m
    rw [hq, f45_l0, if_pos (by simp), if_pos (by simp), show at' [(w, h, p)] (0 : Int) = (w, h, p) from rfl, h74]
    simp only [Option.bind_some]
    rw [if_neg (by decide), h26]
    simp only [Option.bind_some, Bool.not_true]
    rw [if_neg (by decide), show w64 (0 + 1) = 1 from rfl, f45_l0, if_neg (by simp)]
    rfl
  unfold f21_m
  rw [f50_law N]
  simp only [Option.bind_some]
  rw [if_neg (by decide), h45]
  simp only [Option.bind_some, Bool.not_true]
  rw [if_neg (by decide), hq, f21_l0, if_pos (by simp), if_pos (by simp), show at' [(w, h, p)] (0 : Int) = (w, h, p) from rfl, if_neg (by simp), decide_eq_false (by simp)]
  simp only [Option.bind_some]
  rw [if_neg (by decide), show w64 (0 + 1) = 1 from rfl, f21_l0, if_neg (by simp)]
  rfl
theorem f21_law2 (N : Net w h k row b v c low high) {p : List Int} (hp : Pix w h p) : f21_m w h w h (lays k row b v c) low high [(w, h, p), (w, h, p)] = some 0 := by
  have hw := N.hw; have hh := N.hh
  have hm : w * h ≤ 4 * 4 := Int.mul_le_mul hw.2 hh.2 (by omega) (by omega)
  have h74 : f74_m w h p = some 0 := f74_law (by omega) (by omega) hp.1 (fun y hy => by have := hp.2 y hy; omega)
  have h26 : f26_m 0 255 p = some true := f26_law (by have := hp.1; omega) hp.2
  obtain ⟨q, hq, _⟩ := fuel 3 (by omega)
  have h45 : f45_m [(w, h, p), (w, h, p)] = some true := by
    unfold f45_m
    rw [hq, f45_l0, if_pos (by simp), if_pos (by simp), show at' [(w, h, p), (w, h, p)] (0 : Int) = (w, h, p) from rfl, h74]
    simp only [Option.bind_some]
    rw [if_neg (by decide), h26]
    simp only [Option.bind_some, Bool.not_true]
    rw [if_neg (by decide), show w64 (0 + 1) = 1 from rfl, f45_l0, if_pos (by simp), if_pos (by simp), show at' [(w, h, p), (w, h, p)] (1 : Int) = (w, h, p) from rfl, h74]
    simp only [Option.bind_some]
    rw [if_neg (by decide), h26]
    simp only [Option.bind_some, Bool.not_true]
    rw [if_neg (by decide), show w64 (1 + 1) = 2 from rfl, f45_l0, if_neg (by simp)]
    rfl
  unfold f21_m
  rw [f50_law N]
  simp only [Option.bind_some]
  rw [if_neg (by decide), h45]
  simp only [Option.bind_some, Bool.not_true]
  rw [if_neg (by decide), hq, f21_l0, if_pos (by simp), if_pos (by simp), show at' [(w, h, p), (w, h, p)] (0 : Int) = (w, h, p) from rfl, if_neg (by simp), decide_eq_false (by simp)]
  simp only [Option.bind_some]
  rw [if_neg (by decide), show w64 (0 + 1) = 1 from rfl, f21_l0, if_pos (by simp), if_pos (by simp), show at' [(w, h, p), (w, h, p)] (1 : Int) = (w, h, p) from rfl, if_neg (by simp), decide_eq_false (by simp)]
  simp only [Option.bind_some]
  rw [if_neg (by decide), show w64 (1 + 1) = 2 from rfl, f21_l0, if_neg (by simp)]
  rfl
end Go.HL.Tz
