/- The plain law of the machine, second part: all rounds; what 'ran' makes of an image by one point step. -/
import Derived.Test.YtllfmfoahloldaaGreatQC
set_option linter.unusedVariables false
set_option linter.unusedSimpArgs false
set_option maxRecDepth 100000
namespace Go.HL.Tz
open Go.HL
abbrev g (d p : Int) : Int := pt 1 d 1 0 255 p
theorem g_bound (d p : Int) : 0 ≤ g d p ∧ g d p ≤ 255 := by unfold g pt; omega
theorem drop_at {E : Type} [Inhabited E] {C S : List E} {t : Nat} {x : E} (h : C.drop t = x :: S) : t < C.length ∧ at' C (t : Int) = x ∧ C.drop (t + 1) = S := by
  have hl : t < C.length := by
    rcases Nat.lt_or_ge t C.length with h1 | h1
    · exact h1
    · rw [List.drop_eq_nil_of_le h1] at h; cases h
  rw [List.drop_eq_getElem_cons hl] at h
  injection h with h1 h2
  exact ⟨hl, by rw [at_nat C t hl]; exact h1, h2⟩
theorem cells_eq (n o r : Nat) : cells n o r = [if 3 * r < n then ((o + 3 * r : Nat) : Int) else -1, if 3 * r + 1 < n then ((o + 3 * r + 1 : Nat) : Int) else -1, if 3 * r + 2 < n then ((o + 3 * r + 2 : Nat) : Int) else -1] := by
  unfold cells
  simp [List.range_succ]
/-- What the memory holds after r rounds. -/
structure Mem (p : List Int) (d : Int) (r : Nat) (M : List Int) : Prop where
  len : M.length = 8192
  inp : ∀ i : Nat, i < p.length → at' M (i : Int) = at' p (i : Int)
  out : ∀ i : Nat, i < p.length → i < 3 * r → at' M ((p.length + i : Nat) : Int) = g d (at' p (i : Int))
theorem at_set_self {M : List Int} {i : Nat} {y : Int} (h : i < M.length) : at' (M.set i y) (i : Int) = y := by
  rw [at_nat _ i (by simpa using h)]; simp
theorem at_set_ne {M : List Int} {i j : Nat} {y : Int} (h : i ≠ j) (hj : j < M.length) : at' (M.set i y) (j : Int) = at' M (j : Int) := by
  rw [at_nat _ j (by simpa using hj), at_nat _ j hj]
  simp [h]
theorem sto_at_ne {M : List Int} {y : Int} {j n a : Nat} (b : Nat) (hj : j < M.length) (hne : a < n → b ≠ j) : at' (sto M (if a < n then (b : Int) else -1) y) (j : Int) = at' M (j : Int) := by
  by_cases h : a < n
  · rw [if_pos h]; unfold sto
    rw [if_pos (by omega), Int.toNat_natCast]
    exact at_set_ne (hne h) hj
  · rw [if_neg h]; unfold sto
    rw [if_neg (by omega)]
theorem sto_at {M : List Int} {y : Int} {n a b : Nat} (hb : b < M.length) (h : a < n) : at' (sto M (if a < n then (b : Int) else -1) y) (b : Int) = y := by
  rw [if_pos h]; unfold sto
  rw [if_pos (by omega), Int.toNat_natCast]
  exact at_set_self hb
theorem round_mem {p : List Int} {d : Int} {r : Nat} {M : List Int} (hn : p.length ≤ 16) (h : Mem p d r M) (z0 z1 z2 : Int)
    (e0 : 3 * r < p.length → z0 = g d (at' p ((3 * r : Nat) : Int))) (e1 : 3 * r + 1 < p.length → z1 = g d (at' p ((3 * r + 1 : Nat) : Int))) (e2 : 3 * r + 2 < p.length → z2 = g d (at' p ((3 * r + 2 : Nat) : Int))) :
    Mem p d (r + 1) (sto (sto (sto M (if 3 * r < p.length then ((p.length + 3 * r : Nat) : Int) else -1) z0) (if 3 * r + 1 < p.length then ((p.length + 3 * r + 1 : Nat) : Int) else -1) z1) (if 3 * r + 2 < p.length then ((p.length + 3 * r + 2 : Nat) : Int) else -1) z2) := by
  have hl := h.len
  refine ⟨by rw [sto_len, sto_len, sto_len]; exact hl, ?_, ?_⟩
  · intro i hi
    rw [sto_at_ne _ (by rw [sto_len, sto_len]; omega) (by omega), sto_at_ne _ (by rw [sto_len]; omega) (by omega), sto_at_ne _ (by omega) (by omega)]
    exact h.inp i hi
  · intro i hi h3
    rcases Nat.lt_trichotomy i (3 * r) with h4 | h4 | h4
    · rw [sto_at_ne _ (by rw [sto_len, sto_len]; omega) (by omega), sto_at_ne _ (by rw [sto_len]; omega) (by omega), sto_at_ne _ (by omega) (by omega)]
      exact h.out i hi h4
    · subst h4
      rw [sto_at_ne _ (by rw [sto_len, sto_len]; omega) (by omega), sto_at_ne _ (by rw [sto_len]; omega) (by omega), sto_at (by omega) hi]
      exact e0 hi
    · rcases Nat.lt_or_ge i (3 * r + 2) with h5 | h5
      · have : i = 3 * r + 1 := by omega
        subst this
        rw [sto_at_ne _ (by rw [sto_len, sto_len]; omega) (by omega), show p.length + (3 * r + 1) = p.length + 3 * r + 1 by omega, sto_at (by rw [sto_len]; omega) hi]
        exact e1 hi
      · have : i = 3 * r + 2 := by omega
        subst this
        rw [show p.length + (3 * r + 2) = p.length + 3 * r + 2 by omega, sto_at (by rw [sto_len, sto_len]; omega) hi]
        exact e2 hi
theorem ld_in {p : List Int} {d : Int} {r : Nat} {M : List Int} (h : Mem p d r M) (i : Nat) : ld M (if i < p.length then ((0 + i : Nat) : Int) else -1) = if i < p.length then at' p (i : Int) else 0 := by
  by_cases hi : i < p.length
  · rw [if_pos hi, if_pos hi, Nat.zero_add]; unfold ld
    rw [if_pos (by omega)]; exact h.inp i hi
  · rw [if_neg hi, if_neg hi]; rfl
theorem rounds {p : List Int} {d : Int} (hd : -128 ≤ d ∧ d ≤ 127) (hn : p.length ≤ 16) (hv : ∀ y ∈ p, 0 ≤ y ∧ y ≤ 255) :
    ∀ (m r f : Nat) (M : List Int) (x0 x1 x2 : Int) (R1 : List Int), r + m = (p.length + 2) / 3 → (codeOf p.length d).drop (3 * r) = (List.range' r m).flatMap (fun r => [insL p.length r, insP d, insS p.length r]) → 3 * m < f → Mem p d r M →
      ∃ Mf Rf, f19_l2 (codeOf p.length d) f ((3 * r : Nat) : Int) M 3 [[x0, x1, x2], R1] = some (Mf, 3, Rf) ∧ Mem p d ((p.length + 2) / 3) Mf := by
  intro m
  induction m with
  | zero =>
    intro r f M x0 x1 x2 R1 h1 h2 h3 h4
    obtain ⟨f, rfl⟩ : ∃ j, f = j + 1 := ⟨f - 1, by omega⟩
    have hl := codeLen p.length d
    rw [f19_l2, if_neg (by omega)]
    exact ⟨M, _, rfl, by rw [← h1]; simpa using h4⟩
  | succ m ih =>
    intro r f M x0 x1 x2 R1 h1 h2 h3 h4
    obtain ⟨f, rfl⟩ : ∃ j, f = j + 1 + 1 + 1 := ⟨f - 3, by omega⟩
    rw [List.range'_succ, List.flatMap_cons] at h2
    obtain ⟨l0, a0, d0⟩ := drop_at h2
    obtain ⟨l1, a1, d1⟩ := drop_at d0
    obtain ⟨l2, a2, d2⟩ := drop_at d1
    have hl := h4.len
    have hMi : ∀ i : Nat, (if i < p.length then ((0 + i : Nat) : Int) else -1) < (M.length : Int) := by intro i; split <;> omega
    have hMo : ∀ i : Nat, (if 3 * r + i < p.length then ((p.length + 3 * r + i : Nat) : Int) else -1) < (M.length : Int) := by intro i; split <;> omega
    have hin : ∀ i : Nat, 0 ≤ (if i < p.length then at' p (i : Int) else 0) ∧ (if i < p.length then at' p (i : Int) else 0) ≤ 255 := by
      intro i
      by_cases hi : i < p.length
      · rw [if_pos hi]; exact hv _ (at_mem p (i : Int) (by omega) (by omega))
      · rw [if_neg hi]; omega
    -- load
    have sL : f19_l2 (codeOf p.length d) (f + 1 + 1 + 1) ((3 * r : Nat) : Int) M 3 [[x0, x1, x2], R1] = f19_l2 (codeOf p.length d) (f + 1 + 1) ((3 * r + 1 : Nat) : Int) M 3 [[if 3 * r < p.length then at' p ((3 * r : Nat) : Int) else 0, if 3 * r + 1 < p.length then at' p ((3 * r + 1 : Nat) : Int) else 0, if 3 * r + 2 < p.length then at' p ((3 * r + 2 : Nat) : Int) else 0], R1] := by
      have := f75_law (L := 3) (a0 := 0) (a1 := 0) (a2 := 0) (a3 := 0) (a4 := 0) (a5 := 0) (a6 := 0) (a7 := 0) (x0 := x0) (x1 := x1) (x2 := x2) (R1 := R1) (M := M) (hMi (3 * r)) (hMi (3 * r + 1)) (hMi (3 * r + 2))
      rw [ld_in h4, ld_in h4, ld_in h4] at this
      have hc : cells p.length 0 r = [if 3 * r < p.length then ((0 + 3 * r : Nat) : Int) else -1, if 3 * r + 1 < p.length then ((0 + (3 * r + 1) : Nat) : Int) else -1, if 3 * r + 2 < p.length then ((0 + (3 * r + 2) : Nat) : Int) else -1] := cells_eq _ _ _
      have h75 : f75_m 3 [[x0, x1, x2], R1] M 1 0 0 0 0 0 0 0 0 0 0 (cells p.length 0 r) = some (3, [[if 3 * r < p.length then at' p ((3 * r : Nat) : Int) else 0, if 3 * r + 1 < p.length then at' p ((3 * r + 1 : Nat) : Int) else 0, if 3 * r + 2 < p.length then at' p ((3 * r + 2 : Nat) : Int) else 0], R1], M) := by
        rw [hc]; exact this
      rw [f19_l2, if_pos (by omega), if_pos (by omega), a0]
      unfold insL
      simp only [reduceIte]
      rw [h75, Option.bind_some, w64s (by omega) (by omega)]
      rfl
    generalize hu0 : (if 3 * r < p.length then at' p ((3 * r : Nat) : Int) else 0) = u0 at sL
    generalize hu1 : (if 3 * r + 1 < p.length then at' p ((3 * r + 1 : Nat) : Int) else 0) = u1 at sL
    generalize hu2 : (if 3 * r + 2 < p.length then at' p ((3 * r + 2 : Nat) : Int) else 0) = u2 at sL
    have b0 := hin (3 * r); rw [hu0] at b0
    have b1 := hin (3 * r + 1); rw [hu1] at b1
    have b2 := hin (3 * r + 2); rw [hu2] at b2
    have sP : f19_l2 (codeOf p.length d) (f + 1 + 1) ((3 * r + 1 : Nat) : Int) M 3 [[u0, u1, u2], R1] = f19_l2 (codeOf p.length d) (f + 1) ((3 * r + 2 : Nat) : Int) M 3 [[g d u0, g d u1, g d u2], R1] := by
      have h78 := f78_law (d := d) (a0 := 4) (a1 := 0) (a2 := 0) (a3 := 0) (xs := [u0, u1, u2]) (R1 := R1) (M := M) (C := []) hd rfl (by intro y hy; simp at hy; rcases hy with rfl | rfl | rfl <;> assumption)
      rw [f19_l2, if_pos (by omega), if_pos (by omega), a1]
      unfold insP
      simp only [reduceIte, show ¬ ((4 : Int) = 1) by decide, show ¬ ((4 : Int) = 2) by decide]
      rw [h78, Option.bind_some, w64s (by omega) (by omega)]
      rfl
    have c0 := g_bound d u0; have c1 := g_bound d u1; have c2 := g_bound d u2
    have sS : f19_l2 (codeOf p.length d) (f + 1) ((3 * r + 2 : Nat) : Int) M 3 [[g d u0, g d u1, g d u2], R1] = f19_l2 (codeOf p.length d) f ((3 * (r + 1) : Nat) : Int) (sto (sto (sto M (if 3 * r < p.length then ((p.length + 3 * r : Nat) : Int) else -1) (g d u0)) (if 3 * r + 1 < p.length then ((p.length + 3 * r + 1 : Nat) : Int) else -1) (g d u1)) (if 3 * r + 2 < p.length then ((p.length + 3 * r + 2 : Nat) : Int) else -1) (g d u2)) 3 [[g d u0, g d u1, g d u2], R1] := by
      have h76 := f76_law (a0 := 2) (a1 := 0) (a2 := 0) (a3 := 0) (a4 := 0) (a5 := 0) (a6 := 0) (a7 := 0) (a8 := 0) (a9 := 0) (R1 := R1) (M := M) (y0 := g d u0) (y1 := g d u1) (y2 := g d u2) (by intro y hy; simp only [List.mem_cons, List.not_mem_nil, or_false] at hy; rcases hy with rfl | rfl | rfl <;> omega) (hMo 0) (hMo 1) (hMo 2)
      have hc : cells p.length p.length r = [if 3 * r < p.length then ((p.length + 3 * r : Nat) : Int) else -1, if 3 * r + 1 < p.length then ((p.length + 3 * r + 1 : Nat) : Int) else -1, if 3 * r + 2 < p.length then ((p.length + 3 * r + 2 : Nat) : Int) else -1] := cells_eq _ _ _
      have h76' : f76_m 3 [[g d u0, g d u1, g d u2], R1] M 2 0 0 0 0 0 0 0 0 0 0 (cells p.length p.length r) = some (3, [[g d u0, g d u1, g d u2], R1], sto (sto (sto M (if 3 * r < p.length then ((p.length + 3 * r : Nat) : Int) else -1) (g d u0)) (if 3 * r + 1 < p.length then ((p.length + 3 * r + 1 : Nat) : Int) else -1) (g d u1)) (if 3 * r + 2 < p.length then ((p.length + 3 * r + 2 : Nat) : Int) else -1) (g d u2)) := by
        rw [hc]; exact h76
      rw [f19_l2, if_pos (by omega), if_pos (by omega), a2]
      unfold insS
      simp only [reduceIte, show ¬ ((2 : Int) = 1) by decide]
      rw [h76', Option.bind_some, w64s (by omega) (by omega), show ((3 * r + 2 : Nat) : Int) + 1 = ((3 * (r + 1) : Nat) : Int) by omega]
    rw [sL, sP, sS]
    refine ih (r + 1) f _ _ _ _ _ (by omega) (by rw [show 3 * (r + 1) = 3 * r + 1 + 1 + 1 by omega]; exact d2) (by omega) (round_mem hn h4 _ _ _ ?_ ?_ ?_)
    · intro hi; rw [← hu0, if_pos hi]
    · intro hi; rw [← hu1, if_pos hi]
    · intro hi; rw [← hu2, if_pos hi]
theorem f19_law {w h d : Int} {p : List Int} (hw : 1 ≤ w ∧ w ≤ 4) (hh : 1 ≤ h ∧ h ≤ 4) (hd : -128 ≤ d ∧ d ≤ 127) (hl : (p.length : Int) = w * h) (hv : ∀ y ∈ p, 0 ≤ y ∧ y ≤ 255) :
    f19_m 3 2 8192 w h [0] (w * h) (codeOf (w * h).toNat d) [(w, h, p)] = some (w, h, p.map (g d), 0) := by
  have hm : w * h ≤ 4 * 4 := Int.mul_le_mul hw.2 hh.2 (by omega) (by omega)
  have hm0 : 0 ≤ w * h := Int.mul_nonneg (by omega) (by omega)
  have hn : (w * h).toNat = p.length := by omega
  have h0 : f19_l0 3 2 FUEL 0 [] = some [[0, 0, 0], [0, 0, 0]] := by kernel_rfl
  have hrl : (List.replicate (8192 : Int).toNat (0 : Int)).length = 8192 := by rw [List.length_replicate]; rfl
  have h1 : f19_l1 8192 [0] [(w, h, p)] FUEL 0 (List.replicate (8192 : Int).toNat (0 : Int)) = some (p ++ (List.replicate (8192 : Int).toNat (0 : Int)).drop p.length) := by
    obtain ⟨q, hq, _⟩ := fuel 2 (by omega)
    generalize hZ : List.replicate (8192 : Int).toNat (0 : Int) = Z at hrl ⊢
    rw [hq, f19_l1, if_pos (by simp), if_pos (by simp), show at' [(0 : Int)] 0 = 0 from rfl, if_pos (by decide), hZ, if_pos (by omega), if_pos (by simp), show at' [(w, h, p)] (0 : Int) = (w, h, p) from rfl, if_pos (by simp only [Int.toNat_zero]; omega), show w64 (0 + 1) = 1 from rfl, f19_l1, if_neg (by simp)]
    simp
  have hmem : Mem p d 0 (p ++ (List.replicate (8192 : Int).toNat (0 : Int)).drop p.length) := by
    refine ⟨by rw [List.length_append, List.length_drop, hrl]; omega, ?_, fun i _ h => by omega⟩
    intro i hi
    rw [at_nat _ i (by rw [List.length_append]; omega), at_nat p i hi, List.getElem_append_left hi]
  obtain ⟨Mf, Rf, h2, h3⟩ := rounds (p := p) (d := d) hd (by omega) hv ((p.length + 2) / 3) 0 FUEL _ 0 0 0 [0, 0, 0] (by omega) (by unfold codeOf; rw [Nat.mul_zero, List.drop_zero, List.range_eq_range']) (by rw [FUEL_eq]; omega) hmem
  have h4 : (Mf.drop p.length).take p.length = p.map (g d) := by
    have hL := h3.len
    apply List.ext_getElem
    · simp; omega
    · intro i i1 i2
      have i3 : i < p.length := by simpa using i2
      have := h3.out i i3 (by omega)
      rw [at_nat _ _ (by omega), at_nat p i i3] at this
      simpa using this
  unfold f19_m
  rw [hn]
  have h41 := f41_law (w := w) (h := h) hw hh hd
  rw [hn] at h41
  rw [h41]
  simp only [Option.bind_some]
  rw [if_neg (by decide), show ((([(0 : Int)] : List Int).length : Nat) : Int) = 1 from rfl, f42_law hw hh hl hv]
  simp only [Option.bind_some, Bool.not_true]
  rw [if_neg (by decide), if_pos (by decide), h0]
  simp only [Option.bind_some]
  rw [h1]
  simp only [Option.bind_some]
  rw [show f43_m = some () from rfl]
  simp only [Option.bind_some]
  rw [show (0 : Int) = ((3 * 0 : Nat) : Int) from rfl]
  rw [show ((3 * 0 : Nat) : Int) = 0 from rfl] at h2 ⊢
  rw [h2]
  simp only [Option.bind_some]
  have hL := h3.len
  rw [w64s (x := w * h) (by omega) (by omega), if_pos (by omega), if_pos (by omega), if_pos (by omega), hn, h4]
theorem f8_law {w h d : Int} {p : List Int} (hw : 1 ≤ w ∧ w ≤ 4) (hh : 1 ≤ h ∧ h ≤ 4) (hd : -128 ≤ d ∧ d ≤ 127) (hl : (p.length : Int) = w * h) (hv : ∀ y ∈ p, 0 ≤ y ∧ y ≤ 255) :
    f8_m w h 1 [stp d] 3 2 8192 w h p = some (w, h, p.map (g d), true) := by
  unfold f8_m
  rw [comp hw hh hd]
  simp only [Option.bind_some]
  rw [f19_law hw hh hd hl hv]
  rfl
end Go.HL.Tz
