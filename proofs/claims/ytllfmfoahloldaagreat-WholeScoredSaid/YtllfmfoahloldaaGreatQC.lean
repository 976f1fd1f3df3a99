/- The plain law of the machine: what it makes of the code of one point step. -/
import Derived.Test.YtllfmfoahloldaaGreatZV
import Derived.Test.YtllfmfoahloldaaGreatQB
set_option linter.unusedVariables false
set_option linter.unusedSimpArgs false
set_option maxRecDepth 100000
namespace Go.HL.Tz
open Go.HL
-- the code is in order
theorem f109_law {C : List Ins} {a b c : Int} (hl : C.length ≤ 1000000) (h : ∀ x ∈ C, f71_m a b c x.1 x.2.1 x.2.2.1 x.2.2.2.1 x.2.2.2.2.1 x.2.2.2.2.2.1 x.2.2.2.2.2.2.1 x.2.2.2.2.2.2.2.1 x.2.2.2.2.2.2.2.2.1 x.2.2.2.2.2.2.2.2.2.1 x.2.2.2.2.2.2.2.2.2.2.1 x.2.2.2.2.2.2.2.2.2.2.2 = some true) : f69_m C a b c = some false := by
  have key : ∀ (m k : Nat) (t : Int), 0 ≤ t → t + m = C.length → m < k → f109_l0 C a b c k t = some (.inl ()) := by
    intro m
    induction m with
    | zero =>
      intro k t h0 h1 h2
      obtain ⟨k, rfl⟩ : ∃ j, k = j + 1 := ⟨k - 1, by omega⟩
      rw [f109_l0, if_neg (by omega)]
    | succ m ih =>
      intro k t h0 h1 h2
      obtain ⟨k, rfl⟩ : ∃ j, k = j + 1 := ⟨k - 1, by omega⟩
      have hy := h _ (at_mem C t h0 (by omega))
      rw [f109_l0, if_pos (by omega), if_pos ⟨h0, by omega⟩, f70_m, hy]
      simp only [Option.bind_some, Bool.not_true]
      rw [if_neg (by decide), w64s (by omega) (by omega)]
      exact ih k (t + 1) (by omega) (by omega) (by omega)
  unfold f69_m f109_m
  rw [key C.length FUEL 0 (by omega) (by omega) (by rw [FUEL_eq]; omega)]
  rfl
def chk (n : Nat) : Bool := (List.range ((n + 2) / 3)).all fun r => (f71_m 3 2 8192 1 0 0 0 0 0 0 0 0 0 0 (cells n 0 r) == some true) && (f71_m 3 2 8192 2 0 0 0 0 0 0 0 0 0 0 (cells n n r) == some true)
theorem chkAll : (List.range 17).all chk = true := by kernel_rfl
theorem chk_at {n r : Nat} (hn : n ≤ 16) (hr : r < (n + 2) / 3) : f71_m 3 2 8192 1 0 0 0 0 0 0 0 0 0 0 (cells n 0 r) = some true ∧ f71_m 3 2 8192 2 0 0 0 0 0 0 0 0 0 0 (cells n n r) = some true := by
  have h1 := List.all_eq_true.1 chkAll n (by simp; omega)
  have h2 := List.all_eq_true.1 h1 r (by simpa using hr)
  simpa using h2
theorem f71_point {d : Int} (hd : -128 ≤ d ∧ d ≤ 127) : f71_m 3 2 8192 4 0 0 0 0 1 d 1 0 255 0 [] = some true := by
  have h49 : f49_m 1 1 [0] 1 d 1 0 255 = some (1, 1, [0].map (pt 1 d 1 0 255), 0) := f49_law (w := 1) (h := 1) (pix := [0]) (ptOk hd) (by decide) (by decide) (by decide) (by decide)
  unfold f71_m
  rw [h49]
  rfl
theorem codeLen (n : Nat) (d : Int) : (codeOf n d).length = (n + 2) / 3 * 3 := by
  unfold codeOf
  have : ∀ m, ((List.range m).map (fun _ => 3)).sum = m * 3 := by
    intro m
    induction m with
    | zero => rfl
    | succ m ih => rw [List.range_succ, List.map_append, List.sum_append, ih]; simp; omega
  simp [List.length_flatMap, this]
theorem f41_law {w h d : Int} (hw : 1 ≤ w ∧ w ≤ 4) (hh : 1 ≤ h ∧ h ≤ 4) (hd : -128 ≤ d ∧ d ≤ 127) : f41_m 3 2 8192 w h [0] (w * h) (codeOf (w * h).toNat d) = some 0 := by
  have hm : w * h ≤ 4 * 4 := Int.mul_le_mul hw.2 hh.2 (by omega) (by omega)
  have hm0 : 0 ≤ w * h := Int.mul_nonneg (by omega) (by omega)
  have hc := codeLen (w * h).toNat d
  have hlen : (codeOf (w * h).toNat d).length ≤ 18 := by omega
  have h68 : f68_m [0] (w64 (8192 - w64 (w * h))) = some false := by
    obtain ⟨q, hq, _⟩ := fuel 2 (by omega)
    unfold f68_m f108_m
    rw [hq, f108_l0, if_pos (by simp), if_pos (by simp), show at' [(0 : Int)] 0 = 0 from rfl]
    unfold f67_m
    rw [if_pos (by decide), w64s (x := w * h) (by omega) (by omega), w64s (by omega) (by omega), f59_law (by omega)]
    simp only [Option.bind_some, Bool.not_true]
    rw [if_neg (by decide), show w64 (0 + 1) = 1 from rfl, f108_l0, if_neg (by simp)]
    rfl
  have h69 : f69_m (codeOf (w * h).toNat d) 3 2 8192 = some false := by
    refine f109_law (by omega) ?_
    intro x hx
    unfold codeOf at hx
    obtain ⟨r, hr, hx⟩ := List.mem_flatMap.1 hx
    have hr' := chk_at (n := (w * h).toNat) (r := r) (by omega) (by simpa using hr)
    simp only [List.mem_cons, List.not_mem_nil, or_false] at hx
    rcases hx with rfl | rfl | rfl
    · exact hr'.1
    · exact f71_point hd
    · exact hr'.2
  unfold f41_m
  rw [show f33_m 3 2 8192 = some true from rfl]
  simp only [Option.bind_some, Bool.not_true]
  rw [if_neg (by decide), f59_law (by omega)]
  simp only [Option.bind_some, Bool.not_true]
  rw [if_neg (by decide), f59_law (by omega)]
  simp only [Option.bind_some, Bool.not_true]
  rw [if_neg (by decide), decide_eq_false (by decide)]
  simp only [Option.bind_some]
  rw [if_neg (by decide), decide_eq_false (by omega)]
  simp only [Option.bind_some]
  rw [if_neg (by decide), h68, w64s (x := w * h) (by omega) (by omega), w64s (by omega) (by omega), f59_law (by omega)]
  simp only [Option.bind_some, Bool.not_true]
  rw [if_neg (by decide)]
  simp only [Option.bind_some]
  rw [if_neg (by decide), show f43_m = some () from rfl]
  simp only [Option.bind_some]
  rw [h69]
  rfl
theorem f42_law {w h : Int} {p : List Int} (hw : 1 ≤ w ∧ w ≤ 4) (hh : 1 ≤ h ∧ h ≤ 4) (hl : (p.length : Int) = w * h) (hv : ∀ y ∈ p, 0 ≤ y ∧ y ≤ 255) : f42_m [(w, h, p)] 1 w h = some true := by
  have h74 : f74_m w h p = some 0 := f74_law (by omega) (by omega) hl (fun y hy => by have := hv y hy; omega)
  obtain ⟨q, hq, _⟩ := fuel 2 (by omega)
  unfold f42_m f72_m f113_m
  rw [hq, f113_l0, if_pos (by simp), if_pos (by simp), if_pos (by simp), show at' [(w, h, p)] (0 : Int) = (w, h, p) from rfl]
  unfold f73_m
  rw [h74]
  simp only [Option.bind_some]
  simp only [not_true, decide_false, if_false, reduceIte, Option.bind_some, Bool.false_eq_true]
  rw [show w64 (0 + 1) = 1 from rfl, f113_l0, if_neg (by simp)]
  rfl
-- the three operations
def ld (M : List Int) (c : Int) : Int := if 0 ≤ c then at' M c else 0
def sto (M : List Int) (c y : Int) : List Int := if 0 ≤ c then M.set c.toNat y else M
theorem sto_len (M : List Int) (c y : Int) : (sto M c y).length = M.length := by unfold sto; split <;> simp
theorem f75_step {L : Int} {C xs R1 M : List Int} {t k : Nat} (ht : t < C.length) (ht2 : t < 1000) (hx : t < xs.length) (hc : at' C t < (M.length : Int)) :
    f75_l0 L M 0 0 C (k + 1) (t : Int) [xs, R1] = f75_l0 L M 0 0 C k ((t + 1 : Nat) : Int) [xs.set t (ld M (at' C t)), R1] := by
  have e0 : ∀ y : List Int, at' [y, R1] 0 = y := fun y => rfl
  have e1 : ∀ y z : List Int, [y, R1].set (0 : Int).toNat z = [z, R1] := fun y z => rfl
  rw [f75_l0, if_pos (by omega), if_pos (by omega), if_pos (by simp), e0, if_pos (by omega), e1, e1, e0, Int.toNat_natCast, w64s (by omega) (by omega)]
  unfold ld
  by_cases h : 0 ≤ at' C (t : Int)
  · rw [if_pos h, if_pos h, if_pos (by simp), if_pos (by omega), if_pos (by simp; omega), List.set_set]
    rfl
  · rw [if_neg h, if_neg h]
    rfl
theorem f75_law {L a0 a1 a2 a3 a4 a5 a6 a7 : Int} {c0 c1 c2 x0 x1 x2 : Int} {R1 M : List Int} (h0 : c0 < (M.length : Int)) (h1 : c1 < (M.length : Int)) (h2 : c2 < (M.length : Int)) :
    f75_m L [[x0, x1, x2], R1] M a0 0 a1 a2 0 a3 a4 a5 a6 a7 a0 [c0, c1, c2] = some (L, [[ld M c0, ld M c1, ld M c2], R1], M) := by
  obtain ⟨q, hq, _⟩ := fuel 3 (by omega)
  unfold f75_m
  rw [hq, show (0 : Int) = ((0 : Nat) : Int) from rfl]
  have s0 := f75_step (L := L) (C := [c0, c1, c2]) (xs := [x0, x1, x2]) (R1 := R1) (M := M) (t := 0) (k := q + 3) (by simp) (by omega) (by simp) h0
  have s1 := f75_step (L := L) (C := [c0, c1, c2]) (xs := [ld M c0, x1, x2]) (R1 := R1) (M := M) (t := 1) (k := q + 2) (by simp) (by omega) (by simp) h1
  have s2 := f75_step (L := L) (C := [c0, c1, c2]) (xs := [ld M c0, ld M c1, x2]) (R1 := R1) (M := M) (t := 2) (k := q + 1) (by simp) (by omega) (by simp) h2
  refine s0.trans (s1.trans (s2.trans ?_))
  rw [f75_l0, if_neg (by simp)]
  rfl
theorem f114_law {L : Int} {xs R1 M : List Int} (hl : xs.length ≤ 1000) (hv : ∀ y ∈ xs, -2147483648 ≤ y ∧ y ≤ 2147483648) : f114_m L [xs, R1] M 0 = some (L, 1, xs, L, [xs, R1], M) := by
  have e0 : at' [xs, R1] 0 = xs := rfl
  have key : ∀ (m k t : Nat), t + m = xs.length → m < k → f114_l0 [xs, R1] 0 k (t : Int) xs = some xs := by
    intro m
    induction m with
    | zero =>
      intro k t h1 h2
      obtain ⟨k, rfl⟩ : ∃ j, k = j + 1 := ⟨k - 1, by omega⟩
      rw [f114_l0, e0, if_neg (by omega)]
    | succ m ih =>
      intro k t h1 h2
      obtain ⟨k, rfl⟩ : ∃ j, k = j + 1 := ⟨k - 1, by omega⟩
      have hy := hv _ (at_mem xs (t : Int) (by omega) (by omega))
      have e2 : max (-2147483648) (min (at' xs (t : Int)) 2147483648) = at' xs (t : Int) := by omega
      rw [f114_l0, e0, if_pos (by omega), if_pos (by omega), if_pos (by omega), e2, Int.toNat_natCast, at_nat xs t (by omega), List.set_getElem_self, w64s (by omega) (by omega)]
      exact ih k (t + 1) (by omega) (by omega)
  unfold f114_m
  rw [e0, if_pos (by simp), if_pos (by omega), show (0 : Int) = ((0 : Nat) : Int) from rfl, show f114_l0 [xs, R1] ((0 : Nat) : Int) FUEL ((0 : Nat) : Int) xs = some xs from key xs.length FUEL 0 (by omega) (by rw [FUEL_eq]; omega)]
  rfl
theorem f78_law {d a0 a1 a2 a3 : Int} {xs R1 M C : List Int} (hd : -128 ≤ d ∧ d ≤ 127) (hl : xs.length = 3) (hv : ∀ y ∈ xs, 0 ≤ y ∧ y ≤ 255) :
    f78_m 3 [xs, R1] M a0 0 0 a1 a2 1 d 1 0 255 a3 C = some (3, [xs.map (pt 1 d 1 0 255), R1], M) := by
  unfold f78_m
  rw [f114_law (by omega) (fun y hy => by have := hv y hy; omega)]
  simp only [Option.bind_some]
  rw [f49_law (ptOk hd) (by decide) (by decide) (by simp [hl]) (fun y hy => by have := hv y hy; omega)]
  simp only [Option.bind_some]
  rw [if_pos (by simp)]
  rfl
theorem f76_step {C M ys : List Int} {r3 : Int × Int × List Int × Int × List (List Int) × List Int} {t k : Nat} (hr : r3.2.2.1 = ys) (ht : t < C.length) (ht2 : t < 1000) (hx : t < ys.length) (hc : at' C t < (M.length : Int)) :
    f76_l0 C r3 (k + 1) (t : Int) M = f76_l0 C r3 k ((t + 1 : Nat) : Int) (sto M (at' C t) (at' ys t)) := by
  rw [f76_l0, hr, if_pos (by omega), if_pos (by omega), w64s (by omega) (by omega)]
  unfold sto
  by_cases h : 0 ≤ at' C (t : Int)
  · rw [if_pos h, if_pos h, if_pos (by omega), if_pos (by omega)]
    rfl
  · rw [if_neg h, if_neg h]
    rfl
theorem f76_law {a0 a1 a2 a3 a4 a5 a6 a7 a8 a9 : Int} {c0 c1 c2 y0 y1 y2 : Int} {R1 M : List Int} (hv : ∀ y ∈ [y0, y1, y2], -2147483648 ≤ y ∧ y ≤ 2147483648) (h0 : c0 < (M.length : Int)) (h1 : c1 < (M.length : Int)) (h2 : c2 < (M.length : Int)) :
    f76_m 3 [[y0, y1, y2], R1] M a0 a1 0 a2 a3 a4 a5 a6 a7 a8 a9 [c0, c1, c2] = some (3, [[y0, y1, y2], R1], sto (sto (sto M c0 y0) c1 y1) c2 y2) := by
  obtain ⟨q, hq, _⟩ := fuel 3 (by omega)
  unfold f76_m
  rw [f114_law (by simp) hv, Option.bind_some, hq]
  generalize hr : ((3 : Int), (1 : Int), [y0, y1, y2], (3 : Int), [[y0, y1, y2], R1], M) = r3
  have e1 : r3.2.2.1 = [y0, y1, y2] := by rw [← hr]
  have e2 : r3.2.2.2.2.2 = M := by rw [← hr]
  have e3 : r3.2.2.2.1 = 3 := by rw [← hr]
  have e4 : r3.2.2.2.2.1 = [[y0, y1, y2], R1] := by rw [← hr]
  have s0 : f76_l0 [c0, c1, c2] r3 (q + 3 + 1) 0 M = f76_l0 [c0, c1, c2] r3 (q + 3) 1 (sto M c0 y0) := f76_step (t := 0) e1 (by simp) (by omega) (by simp) h0
  have s1 : f76_l0 [c0, c1, c2] r3 (q + 2 + 1) 1 (sto M c0 y0) = f76_l0 [c0, c1, c2] r3 (q + 2) 2 (sto (sto M c0 y0) c1 y1) := f76_step (t := 1) e1 (by simp) (by omega) (by simp) (by rw [sto_len]; exact h1)
  have s2 : f76_l0 [c0, c1, c2] r3 (q + 1 + 1) 2 (sto (sto M c0 y0) c1 y1) = f76_l0 [c0, c1, c2] r3 (q + 1) 3 (sto (sto (sto M c0 y0) c1 y1) c2 y2) := f76_step (t := 2) e1 (by simp) (by omega) (by simp) (by rw [sto_len, sto_len]; exact h2)
  rw [e2, s0, show q + 3 = q + 2 + 1 from rfl, s1, show q + 2 = q + 1 + 1 from rfl, s2, f76_l0, if_neg (by simp), e3, e4]
end Go.HL.Tz
