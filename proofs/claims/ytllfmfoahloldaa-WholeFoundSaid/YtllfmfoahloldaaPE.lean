/- The plain law of the search: the image, the template, and the search by hand; no program in sight. -/
import Derived.Test.YtllfmfoahloldaaPD
import Derived.Test.YtllfmfoahloldaaFD
set_option linter.unusedVariables false
set_option linter.unusedSimpArgs false
set_option linter.unusedSectionVars false
namespace Go.HL.Try
open Go.HL
/-! ### The image -/
theorem f4_loop {W H : Int} {l : List Int} (hW : 1 ≤ W ∧ W ≤ 8) (hH : 1 ≤ H ∧ H ≤ 8) (hl : allIn 0 255 l) : ∀ (n : Nat) (i : Int) (k : Nat) (o : List Int), (W * H - i).toNat = n → n < k → 0 ≤ i → i ≤ W * H → (o.length : Int) = i → allIn 0 255 o →
    ∃ m, f4_l0 W H l k i o = some m ∧ Pic W H m := by
  intro n
  have ha := mul_le8 (a := W) (b := H) (m := 8) (n := 8) (by omega) (by omega) hW.2 hH.2
  induction n with
  | zero =>
    intro i k o hn hk hi hi2 ho hv
    obtain ⟨k, rfl⟩ : ∃ k', k = k' + 1 := ⟨k - 1, by omega⟩
    unfold f4_l0
    rw [w64s (x := W * H) (by omega) (by omega), if_neg (by omega)]
    exact ⟨o, rfl, hW.1, hW.2, hH.1, hH.2, by omega, hv⟩
  | succ n ih =>
    intro i k o hn hk hi hi2 ho hv
    obtain ⟨k, rfl⟩ : ∃ k', k = k' + 1 := ⟨k - 1, by omega⟩
    unfold f4_l0
    rw [w64s (x := W * H) (by omega) (by omega), if_pos (by omega)]
    have hcons : ∀ z, 0 ≤ z ∧ z ≤ 255 → allIn 0 255 (o ++ [z]) := fun z hz x hx => by
      rcases List.mem_append.1 hx with hx | hx
      · exact hv x hx
      · simp at hx; subst hx; exact hz
    split
    · rename_i hlen
      have e1 : Int.tmod i (l.length : Int) = i % (l.length : Int) := Int.tmod_eq_emod_of_nonneg hi
      have h3 := Int.emod_nonneg i (show (l.length : Int) ≠ 0 by omega)
      have h4 := Int.emod_lt_of_pos i hlen
      have hz := hl _ (at_mem l _ h3 h4)
      rw [e1, if_pos (by omega), if_pos ⟨h3, h4⟩, w64s (x := at' l (i % (l.length : Int))) (by omega) (by omega), if_pos (by simp; omega), w64s (x := i + 1) (by omega) (by omega)]
      exact ih (i + 1) k _ (by omega) (by omega) (by omega) (by omega) (by simp; omega) (hcons _ hz)
    · rw [if_pos (by simp; omega), w64s (x := i + 1) (by omega) (by omega)]
      exact ih (i + 1) k _ (by omega) (by omega) (by omega) (by omega) (by simp; omega) (hcons _ (by omega))
theorem f4_some {W H : Int} {l : List Int} (hW : 1 ≤ W ∧ W ≤ 8) (hH : 1 ≤ H ∧ H ≤ 8) (hl : allIn 0 255 l) : ∃ m, f4_m W H l = some (W, H, m) ∧ Pic W H m := by
  have ha := mul_le8 (a := W) (b := H) (m := 8) (n := 8) (by omega) (by omega) hW.2 hH.2
  obtain ⟨m, e, h⟩ := f4_loop hW hH hl (W * H - 0).toNat 0 FUEL [] rfl (by rw [FUEL_eq]; omega) (by omega) (by omega) rfl (fun x hx => by cases hx)
  refine ⟨m, ?_, h⟩
  unfold f4_m
  rw [e]; rfl
/-- What the statement makes of its numbers. -/
structure Cut (W H w h u v x3 x4 x5 x6 : Int) : Prop where
  hw : min (w64 (1 + (w64 (Int.tmod x5 3)))) W = w
  hh : min (w64 (1 + (w64 (Int.tmod x6 3)))) H = h
  hu : Int.tmod (w64 x3) (w64 ((w64 (W - w)) + 1)) = u
  hv : Int.tmod (w64 x4) (w64 ((w64 (H - h)) + 1)) = v
  w0 : 1 ≤ w ∧ w ≤ 3 ∧ w ≤ W
  h0 : 1 ≤ h ∧ h ≤ 3 ∧ h ≤ H
  u0 : 0 ≤ u ∧ u ≤ W - w
  v0 : 0 ≤ v ∧ v ≤ H - h
theorem cut_some {W H x3 x4 x5 x6 : Int} (hW : 1 ≤ W ∧ W ≤ 8) (hH : 1 ≤ H ∧ H ≤ 8) (h3 : 0 ≤ x3 ∧ x3 ≤ 255) (h4 : 0 ≤ x4 ∧ x4 ≤ 255) (h5 : 0 ≤ x5 ∧ x5 ≤ 255) (h6 : 0 ≤ x6 ∧ x6 ≤ 255) : ∃ w h u v, Cut W H w h u v x3 x4 x5 x6 := by
  have e5 : Int.tmod x5 3 = x5 % 3 := Int.tmod_eq_emod_of_nonneg h5.1
  have e6 : Int.tmod x6 3 = x6 % 3 := Int.tmod_eq_emod_of_nonneg h6.1
  have hw : min (w64 (1 + (w64 (Int.tmod x5 3)))) W = min (1 + x5 % 3) W := by rw [e5, w64s (x := x5 % 3) (by omega) (by omega), w64s (x := 1 + x5 % 3) (by omega) (by omega)]
  have hh : min (w64 (1 + (w64 (Int.tmod x6 3)))) H = min (1 + x6 % 3) H := by rw [e6, w64s (x := x6 % 3) (by omega) (by omega), w64s (x := 1 + x6 % 3) (by omega) (by omega)]
  generalize hwe : min (1 + x5 % 3) W = w at *
  generalize hhe : min (1 + x6 % 3) H = h at *
  have w0 : 1 ≤ w ∧ w ≤ 3 ∧ w ≤ W := by omega
  have h0 : 1 ≤ h ∧ h ≤ 3 ∧ h ≤ H := by omega
  refine ⟨w, h, x3 % (W - w + 1), x4 % (H - h + 1), hw, hh, ?_, ?_, w0, h0, ?_, ?_⟩
  · rw [w64s (x := x3) (by omega) (by omega), w64s (x := W - w) (by omega) (by omega), w64s (x := W - w + 1) (by omega) (by omega)]
    exact Int.tmod_eq_emod_of_nonneg h3.1
  · rw [w64s (x := x4) (by omega) (by omega), w64s (x := H - h) (by omega) (by omega), w64s (x := H - h + 1) (by omega) (by omega)]
    exact Int.tmod_eq_emod_of_nonneg h4.1
  · have := Int.emod_nonneg x3 (show W - w + 1 ≠ 0 by omega); have := Int.emod_lt_of_pos x3 (show 0 < W - w + 1 by omega); omega
  · have := Int.emod_nonneg x4 (show H - h + 1 ≠ 0 by omega); have := Int.emod_lt_of_pos x4 (show 0 < H - h + 1 by omega); omega
/-! ### The template -/
section
variable {W H : Int} {pix : List Int} (p : Pic W H pix) {w h u v x3 x4 x5 x6 : Int} (c : Cut W H w h u v x3 x4 x5 x6)
include p c
theorem Cut.div {i : Int} (hi : 0 ≤ i ∧ i < w * h) : (0 ≤ i % w ∧ i % w ≤ w - 1) ∧ (0 ≤ i / w ∧ i / w ≤ h - 1) ∧ Int.tmod i w = i % w ∧ Int.tdiv i w = i / w := by
  have := c.w0
  have h1 := Int.emod_nonneg i (show w ≠ 0 by omega)
  have h2 := Int.emod_lt_of_pos i (show 0 < w by omega)
  have h3 : 0 ≤ i / w := Int.ediv_nonneg hi.1 (by omega)
  have h4 : i / w < h := Int.ediv_lt_of_lt_mul (by omega) (by rw [Int.mul_comm]; exact hi.2)
  exact ⟨by omega, by omega, Int.tmod_eq_emod_of_nonneg hi.1, Int.tdiv_eq_ediv_of_nonneg hi.1⟩
theorem Cut.area : 1 ≤ w * h ∧ w * h ≤ 9 := by
  have := c.w0; have := c.h0
  have h1 := mul_le8 (a := w) (b := h) (m := 3) (n := 3) (by omega) (by omega) (by omega) (by omega)
  have h2 := Int.mul_pos (a := w) (b := h) (by omega) (by omega)
  omega
theorem f3_l0_eq : ∀ (n : Nat) (i : Int) (k : Nat) (o : List Int), (w * h - i).toNat = n → n < k → 0 ≤ i → i ≤ w * h → (o.length : Int) = i → allIn 0 255 o → (∀ j : Nat, (j : Int) < i → o[j]? = some (at' pix ((v + (j : Int) / w) * W + u + (j : Int) % w))) →
    ∃ t, f3_l0 x3 x4 x5 x6 (W, H, pix) k i o = some t ∧ Tem w h t ∧ (∀ j : Nat, (j : Int) < w * h → t[j]? = some (at' pix ((v + (j : Int) / w) * W + u + (j : Int) % w))) := by
  intro n
  have := c.w0; have := c.h0; have := c.u0; have := c.v0; have ha := c.area p; have := p.w0; have := p.w1; have := p.h0; have := p.h1
  induction n with
  | zero =>
    intro i k o hn hk hi hi2 ho hv hE
    obtain ⟨k, rfl⟩ : ∃ k', k = k' + 1 := ⟨k - 1, by omega⟩
    have e : i = w * h := by omega
    subst e
    unfold f3_l0
    simp only [c.hw, c.hh, c.hu, c.hv]
    rw [w64s (x := w * h) (by omega) (by omega), if_neg (by omega)]
    exact ⟨o, rfl, ⟨by omega, by omega, by omega, by omega, ho, hv⟩, hE⟩
  | succ n ih =>
    intro i k o hn hk hi hi2 ho hv' hE
    obtain ⟨k, rfl⟩ : ∃ k', k = k' + 1 := ⟨k - 1, by omega⟩
    obtain ⟨d1, d2, d3, d4⟩ := c.div p (i := i) (by omega)
    unfold f3_l0
    simp only [c.hw, c.hh, c.hu, c.hv, d3, d4]
    have hx := idx_ok p (x := u + i % w) (y := v + i / w) (by omega) (by omega)
    have e0 : (v + i / w) * W + u + i % w = (v + i / w) * W + (u + i % w) := by omega
    rw [← e0] at hx
    have hz := p.val _ (at_mem pix _ hx.1 hx.2.1)
    rw [w64s (x := w * h) (by omega) (by omega), if_pos (by omega), if_pos (by omega), if_pos (by omega), w64s (x := i / w) (by omega) (by omega), w64s (x := v + i / w) (by omega) (by omega),
      w64s (x := (v + i / w) * W) (by omega) (by omega), w64s (x := (v + i / w) * W + u) (by omega) (by omega), w64s (x := (v + i / w) * W + u + i % w) (by omega) (by omega), if_pos ⟨hx.1, hx.2.1⟩,
      if_pos (by simp; omega), w64s (x := i + 1) (by omega) (by omega)]
    refine ih (i + 1) k _ (by omega) (by omega) (by omega) (by omega) (by simp; omega) ?_ ?_
    · intro z hz'
      rcases List.mem_append.1 hz' with hz' | hz'
      · exact hv' z hz'
      · simp at hz'; subst hz'; exact hz
    · intro j hj
      by_cases e : (j : Int) < i
      · rw [List.getElem?_append_left (by omega)]; exact hE j e
      · have e2 : (j : Int) = i := by omega
        rw [List.getElem?_append_right (by omega), show j - o.length = 0 by omega, e2]; rfl
/-! ### One place by hand -/
theorem least_one {q : P3} (hq : StenP q) {x y : Int} : least pix W H x y x y q = if (x + q.1 < 0 ∨ W ≤ x + q.1) ∨ (y + q.2.1 < 0 ∨ H ≤ y + q.2.1) then 255 else dif pix W (y + q.2.1) q (x + q.1) := by
  unfold least cellL
  split
  · rename_i hc
    have e : (irange (max (y + q.2.1) 0) (min (y + q.2.1) (H - 1))).flatMap (rowL pix W x x q) = [] := by
      rw [List.flatMap_eq_nil_iff]
      intro b hb
      have hb' := mem_irange.1 hb
      unfold rowL
      rw [irange_nil (by omega)]; rfl
    rw [e]; rfl
  · rename_i hc
    have e1 : max (y + q.2.1) 0 = y + q.2.1 := by omega
    have e2 : min (y + q.2.1) (H - 1) = y + q.2.1 := by omega
    have e3 : max (x + q.1) 0 = x + q.1 := by omega
    have e4 : min (x + q.1) (W - 1) = x + q.1 := by omega
    unfold rowL
    rw [e1, e2, e3, e4, irange_one, irange_one]
    simp only [List.map_cons, List.map_nil, List.flatMap_cons, List.flatMap_nil, List.append_nil]
    have h1 := dif_ok p hq (x := x + q.1) (y := y + q.2.1) (by omega) (by omega)
    show min 255 _ = _
    omega
variable {t : List Int} (q : Tem w h t)
include q
theorem sten_get {j : Nat} (hj : j < t.length) : (sten w h t 0 2)[j]? = some ((j : Int) % w - (w - 1) / 2, (j : Int) / w - (h - 1) / 2, at' t (j : Int)) := by
  obtain ⟨s, e, h1, h2, h3⟩ := f11_some q (tu := 0) (sc := 2) (by omega) (by omega)
  unfold sten
  rw [e]
  exact h3 rfl rfl j hj
theorem sten_len : (sten w h t 0 2).length = t.length := by
  obtain ⟨s, e, h1, h2, h3⟩ := f11_some q (tu := 0) (sc := 2) (by omega) (by omega)
  unfold sten
  rw [e]; exact h2
theorem f3_l3_eq {x y : Int} (hx : 0 ≤ x ∧ x ≤ W - 1) (hy : 0 ≤ y ∧ y ≤ H - 1) : ∀ (n i k : Nat) (a : Int), t.length - i = n → n < k → i ≤ t.length → 0 ≤ a → a ≤ 255 * i →
    f3_l3 x5 x6 (W, H, pix) t y x k a (i : Int) = some (a + sumL (((sten w h t 0 2).drop i).map (least pix W H x y x y))) := by
  intro n
  have := c.w0; have := c.h0; have ha := c.area p; have := p.w0; have := p.w1; have := p.h0; have := p.h1
  have hlen := q.len
  have hsl := sten_len p c q
  induction n with
  | zero =>
    intro i k a hn hk hi h1 h2
    obtain ⟨k, rfl⟩ : ∃ k', k = k' + 1 := ⟨k - 1, by omega⟩
    unfold f3_l3
    simp only [c.hw, c.hh]
    rw [w64s (x := w * h) (by omega) (by omega), if_neg (by omega), List.drop_of_length_le (by omega)]
    simp [sumL]
  | succ n ih =>
    intro i k a hn hk hi h1 h2
    obtain ⟨k, rfl⟩ : ∃ k', k = k' + 1 := ⟨k - 1, by omega⟩
    obtain ⟨d1, d2, d3, d4⟩ := c.div p (i := (i : Int)) (by omega)
    have hg := sten_get p c q (j := i) (by omega)
    have hS := (sten_some q (tu := 0) (sc := 2) (by omega) (by omega)).2
    obtain ⟨hi', hg'⟩ := List.getElem?_eq_some_iff.1 hg
    have hq := hS.all _ (List.getElem_mem hi')
    have hlst := least_ok p hq (x0 := x) (y0 := y) (x1 := x) (y1 := y)
    have hone := least_one p c hq (x := x) (y := y)
    rw [List.drop_eq_getElem_cons hi', List.map_cons]
    simp only [sumL]
    generalize hls : least pix W H x y x y (sten w h t 0 2)[i] = le at *
    rw [hg'] at hone hq
    simp only at hone
    have e1 : Int.tdiv (w - 1) 2 = (w - 1) / 2 := Int.tdiv_eq_ediv_of_nonneg (by omega)
    have e2 : Int.tdiv (h - 1) 2 = (h - 1) / 2 := Int.tdiv_eq_ediv_of_nonneg (by omega)
    have f1 : w64 (w64 (x + (i : Int) % w) - w64 (Int.tdiv (w64 (w - 1)) 2)) = x + ((i : Int) % w - (w - 1) / 2) := by
      rw [w64s (x := w - 1) (by omega) (by omega), e1, w64s (x := (w - 1) / 2) (by omega) (by omega), w64s (x := x + (i : Int) % w) (by omega) (by omega), w64s (by omega) (by omega)]; omega
    have f2 : w64 (w64 (y + w64 ((i : Int) / w)) - w64 (Int.tdiv (w64 (h - 1)) 2)) = y + ((i : Int) / w - (h - 1) / 2) := by
      rw [w64s (x := h - 1) (by omega) (by omega), e2, w64s (x := (h - 1) / 2) (by omega) (by omega), w64s (x := (i : Int) / w) (by omega) (by omega), w64s (x := y + (i : Int) / w) (by omega) (by omega), w64s (by omega) (by omega)]; omega
    have hti := at_nat t i (by omega)
    unfold f3_l3
    simp only [c.hw, c.hh, d3, d4, f1, f2]
    generalize hA : x + ((i : Int) % w - (w - 1) / 2) = A at *
    generalize hB : y + ((i : Int) / w - (h - 1) / 2) = B at *
    rw [w64s (x := w * h) (by omega) (by omega), if_pos (by omega), if_pos (by omega), if_pos (by omega), w64s (x := (i : Int) + 1) (by omega) (by omega)]
    have hih : ∀ z, z = a + le → f3_l3 x5 x6 (W, H, pix) t y x k z ((i : Int) + 1) = some (a + (le + sumL (((sten w h t 0 2).drop (i + 1)).map (least pix W H x y x y)))) := fun z hz => by
      subst hz
      rw [show ((i : Int) + 1) = ((i + 1 : Nat) : Int) by omega, ih (i + 1) k (a + le) (by omega) (by omega) (by omega) (by omega) (by omega)]
      congr 1; omega
    by_cases hout : (A < 0 ∨ W ≤ A) ∨ (B < 0 ∨ H ≤ B)
    · rw [if_pos hout] at hone
      have hb : ((((if A < 0 then some true else some (decide (W ≤ A))).bind fun b1 => (if b1 = true then some true else some (decide (B < 0))).bind fun b2 => (if b2 = true then some true else some (decide (H ≤ B)))) : Option Bool)) = some true := by
        by_cases k1 : A < 0
        · simp [k1]
        · by_cases k2 : W ≤ A
          · simp [k1, k2]
          · by_cases k3 : B < 0
            · simp [k1, k2, k3]
            · have k4 : H ≤ B := by omega
              simp [k1, k2, k3, k4]
      have hgo : ∀ (X Y : Option Int), ((if A < 0 then some true else some (decide (W ≤ A))).bind fun b1 => (if b1 = true then some true else some (decide (B < 0))).bind fun b2 => (if b2 = true then some true else some (decide (H ≤ B))).bind fun b3 => if b3 = true then X else Y) = X := by
        intro X Y
        by_cases k1 : A < 0
        · simp [k1]
        · by_cases k2 : W ≤ A
          · simp [k1, k2]
          · by_cases k3 : B < 0
            · simp [k1, k2, k3]
            · have k4 : H ≤ B := by omega
              simp [k1, k2, k3, k4]
      rw [hgo, w64s (x := a + 255) (by omega) (by omega)]
      exact hih _ (by omega)
    · rw [if_neg hout] at hone
      have hgo : ∀ (X Y : Option Int), ((if A < 0 then some true else some (decide (W ≤ A))).bind fun b1 => (if b1 = true then some true else some (decide (B < 0))).bind fun b2 => (if b2 = true then some true else some (decide (H ≤ B))).bind fun b3 => if b3 = true then X else Y) = Y := by
        intro X Y
        have k1 : ¬ A < 0 := by omega
        have k2 : ¬ W ≤ A := by omega
        have k3 : ¬ B < 0 := by omega
        have k4 : ¬ H ≤ B := by omega
        simp [k1, k2, k3, k4]
      have hid := idx_ok p (x := A) (y := B) (by omega) (by omega)
      have hz := p.val _ (at_mem pix _ hid.1 hid.2.1)
      have ht := q.val _ (at_mem t (i : Int) (by omega) (by omega))
      unfold dif at hone
      simp only at hone
      rw [hgo, w64s (x := B * W) (by omega) (by omega), w64s (x := B * W + A) (by omega) (by omega), if_pos ⟨hid.1, hid.2.1⟩, if_pos (by omega),
        w64s (x := at' pix (B * W + A) - at' t (i : Int)) (by omega) (by omega), w64s (x := 0 - (at' pix (B * W + A) - at' t (i : Int))) (by omega) (by omega), w64s (x := a + _) (by omega) (by omega)]
      exact hih _ (by omega)
theorem f3_l3_all {x y : Int} (hx : 0 ≤ x ∧ x ≤ W - 1) (hy : 0 ≤ y ∧ y ≤ H - 1) : f3_l3 x5 x6 (W, H, pix) t y x FUEL 0 0 = some (bd (sten w h t 0 2) pix W H x y x y) := by
  have h1 := q.len; have h2 := c.area p
  have := f3_l3_eq p c q hx hy t.length 0 FUEL 0 (by omega) (by rw [FUEL_eq]; omega) (by omega) (by omega) (by omega)
  simpa [bd] using this
def dueOne (w h : Int) (t pix : List Int) (W H L y x : Int) : Option M5 := if bd (sten w h t 0 2) pix W H x y x y ≤ L then some (x, y, 0, 2, bd (sten w h t 0 2) pix W H x y x y) else none
def dueRow (w h : Int) (t pix : List Int) (W H L y x : Int) : List M5 := (irange x (W - 1)).filterMap (dueOne w h t pix W H L y)
def dueAll (w h : Int) (t pix : List Int) (W H L y : Int) : List M5 := (irange y (H - 1)).flatMap fun y => dueRow w h t pix W H L y 0
theorem dueRow_cons {L y x : Int} (hx : x ≤ W - 1) : dueRow w h t pix W H L y x = (match dueOne w h t pix W H L y x with | some m => [m] | none => []) ++ dueRow w h t pix W H L y (x + 1) := by
  unfold dueRow
  rw [irange_cons hx, List.filterMap_cons]
  split <;> rename_i e <;> simp [e]
theorem f3_l2_eq {L x7 : Int} (hL : w64 (Int.tmod x7 1001) = L) {y : Int} (hy : 0 ≤ y ∧ y ≤ H - 1) (hz : bd (sten w h t 0 2) pix W H (u + (w - 1) / 2) (v + (h - 1) / 2) (u + (w - 1) / 2) (v + (h - 1) / 2) = 0) :
    ∀ (n : Nat) (x : Int) (k : Nat) (b : Bool) (o : List M5), (W - x).toNat = n → n < k → 0 ≤ x → x ≤ W → (o.length : Int) + (W - x) ≤ 10000 →
    ∃ b', f3_l2 x3 x4 x5 x6 x7 (W, H, pix) t y k b x o = some (b', o ++ dueRow w h t pix W H L y x) ∧ (b = true → b' = true) ∧ (y = v + (h - 1) / 2 → x ≤ u + (w - 1) / 2 → b' = true) := by
  intro n
  have := c.w0; have := c.h0; have := c.u0; have := c.v0; have := p.w0; have := p.w1; have := p.h0; have := p.h1
  have e1 : Int.tdiv (w - 1) 2 = (w - 1) / 2 := Int.tdiv_eq_ediv_of_nonneg (by omega)
  have e2 : Int.tdiv (h - 1) 2 = (h - 1) / 2 := Int.tdiv_eq_ediv_of_nonneg (by omega)
  have f1 : w64 (u + w64 (Int.tdiv (w64 (w - 1)) 2)) = u + (w - 1) / 2 := by
    rw [w64s (x := w - 1) (by omega) (by omega), e1, w64s (x := (w - 1) / 2) (by omega) (by omega), w64s (by omega) (by omega)]
  have f2 : w64 (v + w64 (Int.tdiv (w64 (h - 1)) 2)) = v + (h - 1) / 2 := by
    rw [w64s (x := h - 1) (by omega) (by omega), e2, w64s (x := (h - 1) / 2) (by omega) (by omega), w64s (by omega) (by omega)]
  generalize hpx : u + (w - 1) / 2 = px at *
  generalize hpy : v + (h - 1) / 2 = py at *
  induction n with
  | zero =>
    intro x k b o hn hk hx hx2 hlen
    obtain ⟨k, rfl⟩ : ∃ k', k = k' + 1 := ⟨k - 1, by omega⟩
    unfold f3_l2
    simp only
    rw [if_neg (by omega)]
    refine ⟨b, ?_, id, fun _ h => by omega⟩
    unfold dueRow
    rw [irange_nil (by omega)]; simp
  | succ n ih =>
    intro x k b o hn hk hx hx2 hlen
    obtain ⟨k, rfl⟩ : ∃ k', k = k' + 1 := ⟨k - 1, by omega⟩
    have hsum := f3_l3_all p c q (x := x) (y := y) (by omega) hy
    generalize hS : bd (sten w h t 0 2) pix W H x y x y = S at *
    unfold f3_l2
    simp only [c.hw, c.hh, c.hu, c.hv, f1, f2, hL]
    rw [if_pos (by omega), hsum, w64s (x := x + 1) (by omega) (by omega)]
    simp only [Option.bind_some]
    have hb : ∃ b1 : Bool, (if b = true then some true else if S = 0 then if x = px then some (decide (y = py)) else some false else some false) = some b1 ∧ (b = true → b1 = true) ∧ (y = py → x = px → b1 = true) := by
      by_cases hb : b = true
      · exact ⟨true, by rw [if_pos hb], fun _ => rfl, fun _ _ => rfl⟩
      · rw [if_neg hb]
        by_cases h1 : S = 0
        · rw [if_pos h1]
          by_cases h2 : x = px
          · rw [if_pos h2]
            exact ⟨decide (y = py), rfl, fun h => absurd h hb, fun h _ => by simp [h]⟩
          · rw [if_neg h2]
            exact ⟨false, rfl, fun h => absurd h hb, fun _ h => absurd h h2⟩
        · rw [if_neg h1]
          refine ⟨false, rfl, fun h => absurd h hb, fun h h2 => ?_⟩
          subst h h2
          exact absurd (hS.symm.trans hz) h1
    obtain ⟨b1, hb1, hb2, hb3⟩ := hb
    simp only [hb1, Option.bind_some]
    rw [dueRow_cons p c q (by omega)]
    unfold dueOne
    rw [hS]
    have fin : ∀ (o' : List M5), (o'.length : Int) + (W - (x + 1)) ≤ 10000 → ∃ b', f3_l2 x3 x4 x5 x6 x7 (W, H, pix) t y k b1 (x + 1) o' = some (b', o' ++ dueRow w h t pix W H L y (x + 1)) ∧ (b = true → b' = true) ∧ (y = py → x ≤ px → b' = true) := by
      intro o' ho'
      obtain ⟨b', g1, g2, g3⟩ := ih (x + 1) k b1 o' (by omega) (by omega) (by omega) (by omega) ho'
      refine ⟨b', g1, fun h => g2 (hb2 h), fun h h2 => ?_⟩
      by_cases e : x = px
      · exact g2 (hb3 h e)
      · exact g3 h (by omega)
    by_cases hle : S ≤ L
    · rw [if_pos hle, if_pos (by simp; omega)]
      simp only [Option.bind_some, if_pos hle]
      obtain ⟨b', g1, g2⟩ := fin (o ++ [(x, y, 0, 2, S)]) (by simp; omega)
      exact ⟨b', by rw [g1]; simp, g2⟩
    · rw [if_neg hle]
      simp only [Option.bind_some, if_neg hle]
      obtain ⟨b', g1, g2⟩ := fin o (by omega)
      exact ⟨b', by rw [g1]; simp, g2⟩
theorem dueRow_len {L y : Int} : ((dueRow w h t pix W H L y 0).length : Int) ≤ 8 := by
  have := p.w0; have := p.w1
  have h1 := List.length_filterMap_le (dueOne w h t pix W H L y) (irange 0 (W - 1))
  rw [irange_len] at h1
  unfold dueRow
  omega
theorem f3_l1_eq {L x7 : Int} (hL : w64 (Int.tmod x7 1001) = L) (hz : bd (sten w h t 0 2) pix W H (u + (w - 1) / 2) (v + (h - 1) / 2) (u + (w - 1) / 2) (v + (h - 1) / 2) = 0) :
    ∀ (n : Nat) (y : Int) (k : Nat) (b : Bool) (o : List M5), (H - y).toNat = n → n < k → 0 ≤ y → y ≤ H → (o.length : Int) + 8 * (H - y) ≤ 1000 →
    ∃ b', f3_l1 x3 x4 x5 x6 x7 (W, H, pix) t k b y o = some (b', o ++ dueAll w h t pix W H L y) ∧ (b = true → b' = true) ∧ (y ≤ v + (h - 1) / 2 → b' = true) := by
  intro n
  have := c.w0; have := c.h0; have := c.u0; have := c.v0; have := p.w0; have := p.w1; have := p.h0; have := p.h1
  induction n with
  | zero =>
    intro y k b o hn hk hy hy2 hlen
    obtain ⟨k, rfl⟩ : ∃ k', k = k' + 1 := ⟨k - 1, by omega⟩
    unfold f3_l1
    simp only
    rw [if_neg (by omega)]
    refine ⟨b, ?_, id, fun h => by omega⟩
    unfold dueAll
    rw [irange_nil (by omega)]; simp
  | succ n ih =>
    intro y k b o hn hk hy hy2 hlen
    obtain ⟨k, rfl⟩ : ∃ k', k = k' + 1 := ⟨k - 1, by omega⟩
    obtain ⟨b1, g1, g2, g3⟩ := f3_l2_eq p c q hL (y := y) (by omega) hz (W - 0).toNat 0 FUEL b o rfl (by rw [FUEL_eq]; omega) (by omega) (by omega) (by omega)
    have hrl := dueRow_len p c q (L := L) (y := y)
    obtain ⟨b2, k1, k2, k3⟩ := ih (y + 1) k b1 (o ++ dueRow w h t pix W H L y 0) (by omega) (by omega) (by omega) (by omega) (by rw [List.length_append]; omega)
    refine ⟨b2, ?_, fun h => k2 (g2 h), fun hyy => ?_⟩
    · unfold f3_l1
      simp only
      rw [if_pos (by omega), g1, Option.bind_some, w64s (x := y + 1) (by omega) (by omega), k1]
      unfold dueAll
      rw [irange_cons (a := y) (by omega), List.flatMap_cons, List.append_assoc]
    · by_cases e : y = v + (h - 1) / 2
      · exact k2 (g3 e (by omega))
      · exact k3 (by omega)
end
/-! ### What the search found, told by hand -/
theorem eq_of_lt {α : Type} {R : α → α → Prop} (irr : ∀ x, ¬ R x x) (asy : ∀ x y, R x y → ¬ R y x) : ∀ (l m : List α), l.Pairwise R → m.Pairwise R → (∀ x, x ∈ l ↔ x ∈ m) → l = m
  | [], [], _, _, _ => rfl
  | [], b :: m, _, _, h => by have := (h b).2 (List.mem_cons_self ..); cases this
  | a :: l, [], _, _, h => by have := (h a).1 (List.mem_cons_self ..); cases this
  | a :: l, b :: m, h1, h2, h => by
    rw [List.pairwise_cons] at h1 h2
    have e : a = b := by
      rcases List.mem_cons.1 ((h a).1 (List.mem_cons_self ..)) with e | e
      · exact e
      · rcases List.mem_cons.1 ((h b).2 (List.mem_cons_self ..)) with e2 | e2
        · exact e2.symm
        · exact absurd (h2.1 a e) (asy _ _ (h1.1 b e2))
    subst e
    rw [eq_of_lt irr asy l m h1.2 h2.2 fun x => ⟨fun hx => ?_, fun hx => ?_⟩]
    · rcases List.mem_cons.1 ((h x).1 (List.mem_cons_of_mem _ hx)) with e | e
      · subst e; exact absurd (h1.1 _ hx) (irr _)
      · exact e
    · rcases List.mem_cons.1 ((h x).2 (List.mem_cons_of_mem _ hx)) with e | e
      · subst e; exact absurd (h2.1 _ hx) (irr _)
      · exact e
theorem mem_dueAll {W H : Int} {pix : List Int} {w h : Int} {t : List Int} {L : Int} {m : M5} : m ∈ dueAll w h t pix W H L 0 ↔ (0 ≤ m.1 ∧ m.1 ≤ W - 1) ∧ (0 ≤ m.2.1 ∧ m.2.1 ≤ H - 1) ∧ m = (m.1, m.2.1, 0, 2, bd (sten w h t 0 2) pix W H m.1 m.2.1 m.1 m.2.1) ∧ bd (sten w h t 0 2) pix W H m.1 m.2.1 m.1 m.2.1 ≤ L := by
  unfold dueAll dueRow
  rw [List.mem_flatMap]
  constructor
  · rintro ⟨y, hy, hm⟩
    obtain ⟨x, hx, he⟩ := List.mem_filterMap.1 hm
    unfold dueOne at he
    split at he
    · rename_i hle
      cases he
      exact ⟨mem_irange.1 hx, mem_irange.1 hy, rfl, hle⟩
    · cases he
  · rintro ⟨h1, h2, h3, h4⟩
    refine ⟨m.2.1, mem_irange.2 h2, List.mem_filterMap.2 ⟨m.1, mem_irange.2 h1, ?_⟩⟩
    unfold dueOne
    rw [if_pos h4, ← h3]
theorem dueAll_sorted (w h : Int) (t pix : List Int) (W H L : Int) : (dueAll w h t pix W H L 0).Pairwise ltP := by
  unfold dueAll dueRow
  rw [List.pairwise_flatMap]
  have hone : ∀ {y x : Int} {m : M5}, dueOne w h t pix W H L y x = some m → m.1 = x ∧ m.2.1 = y := by
    intro y x m he
    unfold dueOne at he
    split at he
    · cases he; exact ⟨rfl, rfl⟩
    · cases he
  refine ⟨fun y _ => ?_, ?_⟩
  · rw [List.pairwise_filterMap]
    refine (irange_pair 0 (W - 1)).imp fun {a b} hab => ?_
    intro m hm m' hm'
    have h1 := hone hm; have h2 := hone hm'
    exact .inr ⟨by rw [h1.2, h2.2], by rw [h1.1, h2.1]; exact hab⟩
  · refine (irange_pair 0 (H - 1)).imp fun {a b} hab => ?_
    intro m hm m' hm'
    obtain ⟨_, _, e1⟩ := List.mem_filterMap.1 hm
    obtain ⟨_, _, e2⟩ := List.mem_filterMap.1 hm'
    have h1 := hone e1; have h2 := hone e2
    exact .inl (by rw [h1.2, h2.2]; exact hab)
theorem found_due {W H : Int} {pix : List Int} {w h : Int} {t : List Int} {L : Int} {M : List M5} {A : List A6} (g : Good (sten w h t 0 2) pix W H L 0 2 0 0 (W - 1) (H - 1) M A) : sortM M = dueAll w h t pix W H L 0 := by
  have hnd : ((sortM M).map poseM).Nodup := by
    have h1 : (M.map poseM ++ A.flatMap posesA).Nodup := g.cov.nodup_iff.2 (poses_nodup _ _ _ _)
    have h2 : (M.map poseM).Nodup := h1.sublist (List.sublist_append_left _ _)
    exact ((sortM_perm M).map poseM).nodup_iff.2 h2
  have hs : (sortM M).Pairwise ltP := by
    have h1 := sortM_sorted M
    have h2 : (sortM M).Pairwise fun x y => poseM x ≠ poseM y := List.pairwise_map.1 hnd
    refine (h1.and h2).imp fun {a b} hab => ?_
    obtain ⟨h3, h4⟩ := hab
    unfold ltP at h3 ⊢
    have h5 : ¬ (a.1 = b.1 ∧ a.2.1 = b.2.1) := fun e => h4 (Prod.ext e.1 e.2)
    omega
  refine eq_of_lt (R := ltP) (fun x h => ?_) (fun x y h1 h2 => ?_) _ _ hs (dueAll_sorted w h t pix W H L) fun m => ?_
  · unfold ltP at h; omega
  · unfold ltP at h1 h2; omega
  · rw [(sortM_perm M).mem_iff, mem_dueAll]
    constructor
    · intro hm
      obtain ⟨k1, k2, k3, k4, k5, k6⟩ := g.m m hm
      refine ⟨k1, k2, ?_, by rw [← k5]; exact k6⟩
      rw [← k5]
      obtain ⟨a, b, c, d, e⟩ := m
      simp only at k3 k4
      subst k3 k4
      rfl
    · rintro ⟨h1, h2, h3, h4⟩
      have hp : (m.1, m.2.1) ∈ M.map poseM ++ A.flatMap posesA := g.cov.mem_iff.2 (mem_poses.2 ⟨h1, h2⟩)
      rcases List.mem_append.1 hp with hp | hp
      · obtain ⟨m', hm', e⟩ := List.mem_map.1 hp
        obtain ⟨k1, k2, k3, k4, k5, k6⟩ := g.m m' hm'
        have e1 : m'.1 = m.1 := (Prod.ext_iff.1 e).1
        have e2 : m'.2.1 = m.2.1 := (Prod.ext_iff.1 e).2
        have : m' = m := by
          rw [h3]
          rw [e1, e2] at k5
          obtain ⟨a, b, c, d, f⟩ := m'
          simp only at k3 k4 k5 e1 e2
          rw [k3, k4, k5, e1, e2]
        rw [← this]; exact hm'
      · obtain ⟨a, ha, hpa⟩ := List.mem_flatMap.1 hp
        obtain ⟨k1, k2, k3, k4, k5⟩ := g.a a ha
        have h5 := mem_poses.1 hpa
        have := bd_mono (s := sten w h t 0 2) (pix := pix) (W := W) (H := H) h5.1.1 h5.1.2 h5.2.1 h5.2.2
        simp only at this
        omega
theorem f3_l4_eq {MS : List M5} {AS : List A6} (hl : MS.length ≤ 10000) : ∀ (n i k : Nat) (o : List M5), MS.length - i = n → n < k → i ≤ MS.length → o.length ≤ i → f3_l4 (MS, AS, 0) k (i : Int) o = some (o ++ (MS.drop i).filter is02) := by
  intro n
  induction n with
  | zero =>
    intro i k o hn hk hi ho
    obtain ⟨k, rfl⟩ : ∃ k', k = k' + 1 := ⟨k - 1, by omega⟩
    unfold f3_l4
    simp only
    rw [if_neg (by omega), List.drop_of_length_le (by omega)]; simp
  | succ n ih =>
    intro i k o hn hk hi ho
    obtain ⟨k, rfl⟩ : ∃ k', k = k' + 1 := ⟨k - 1, by omega⟩
    have hi' : i < MS.length := by omega
    unfold f3_l4
    simp only
    rw [at_nat MS i hi', if_pos (by omega), if_pos (by omega), w64s (x := (i : Int) + 1) (by omega) (by omega), List.drop_eq_getElem_cons hi', List.filter_cons, show ((i : Int) + 1) = ((i + 1 : Nat) : Int) by omega]
    rw [show is02 MS[i] = (decide (MS[i].2.2.1 = 0) && decide (MS[i].2.2.2.1 = 2)) from rfl]
    by_cases h1 : MS[i].2.2.1 = 0
    · rw [if_pos h1, if_pos (by omega)]
      simp only [Option.bind_some]
      by_cases h2 : MS[i].2.2.2.1 = 2
      · simp only [h1, h2, decide_true, Bool.and_self, if_true]
        rw [if_pos (by omega), if_pos (by simp; omega), ih (i + 1) k _ (by omega) (by omega) (by omega) (by simp; omega)]
        have : MS[i] = (MS[i].1, MS[i].2.1, 0, 2, MS[i].2.2.2.2) := by
          rw [← h1, ← h2]
        rw [← this]
        simp
      · simp only [h1, h2, decide_true, decide_false, Bool.and_false]
        rw [if_neg (by decide), if_neg (by decide), ih (i + 1) k _ (by omega) (by omega) (by omega) (by omega)]
    · rw [if_neg h1]
      simp only [Option.bind_some, h1, decide_false, Bool.false_and]
      rw [if_neg (by decide), if_neg (by decide), ih (i + 1) k _ (by omega) (by omega) (by omega) (by omega)]

theorem f7_loop {l : List M5} (hl : l.length ≤ 100000) : ∀ (n i k : Nat), l.length - i = n → n < k → i ≤ l.length → f7_l0 l l k (i : Int) = some (Sum.inl ()) := by
  intro n
  induction n with
  | zero =>
    intro i k hn hk hi
    obtain ⟨k, rfl⟩ : ∃ k', k = k' + 1 := ⟨k - 1, by omega⟩
    unfold f7_l0
    rw [if_neg (by omega)]
  | succ n ih =>
    intro i k hn hk hi
    obtain ⟨k, rfl⟩ : ∃ k', k = k' + 1 := ⟨k - 1, by omega⟩
    unfold f7_l0
    rw [if_pos (by omega), if_pos (by omega), if_pos (by omega), if_neg (fun h => h rfl), w64s (x := (i : Int) + 1) (by omega) (by omega), show ((i : Int) + 1) = ((i + 1 : Nat) : Int) by omega]
    exact ih (i + 1) k (by omega) (by omega) (by omega)
theorem f7_true {l : List M5} (hl : l.length ≤ 100000) : f7_m l l = some true := by
  unfold f7_m
  rw [if_neg (fun h => h rfl), show (0 : Int) = ((0 : Nat) : Int) from rfl, f7_loop hl l.length 0 FUEL (by omega) (by rw [FUEL_eq]; omega) (by omega)]
  rfl
theorem sumL_zero : ∀ l : List Int, (∀ x ∈ l, x = 0) → sumL l = 0
  | [], _ => rfl
  | x :: l, h => by
    have h1 := h x (List.mem_cons_self ..)
    have h2 := sumL_zero l fun y hy => h y (List.mem_cons_of_mem _ hy)
    simp only [sumL]; omega
theorem bd_cut {W H : Int} {pix : List Int} (p : Pic W H pix) {w h u v x3 x4 x5 x6 : Int} (c : Cut W H w h u v x3 x4 x5 x6) {t : List Int} (q : Tem w h t) (ht : ∀ j : Nat, (j : Int) < w * h → t[j]? = some (at' pix ((v + (j : Int) / w) * W + u + (j : Int) % w))) :
    bd (sten w h t 0 2) pix W H (u + (w - 1) / 2) (v + (h - 1) / 2) (u + (w - 1) / 2) (v + (h - 1) / 2) = 0 := by
  have := c.w0; have := c.h0; have := c.u0; have := c.v0; have := p.w0; have := p.h0
  have hl := q.len
  have hsl := sten_len p c q
  refine sumL_zero _ fun z hz => ?_
  obtain ⟨s, hs, rfl⟩ := List.mem_map.1 hz
  have hS := (sten_some q (tu := 0) (sc := 2) (by omega) (by omega)).2
  have hsp := hS.all s hs
  obtain ⟨j, hj, e⟩ := List.mem_iff_getElem.1 hs
  have hg := sten_get p c q (j := j) (by omega)
  rw [List.getElem?_eq_getElem hj, e] at hg
  cases hg
  have hj' : (j : Int) < w * h := by omega
  obtain ⟨d1, d2, d3, d4⟩ := c.div p (i := (j : Int)) (by omega)
  rw [least_one p c hsp]
  simp only
  rw [if_neg (by omega)]
  unfold dif
  simp only
  have h1 : at' t (j : Int) = at' pix ((v + (j : Int) / w) * W + u + (j : Int) % w) := by
    have h2 := ht j hj'
    have h3 : j < t.length := by omega
    rw [at_nat t j h3]
    rw [List.getElem?_eq_getElem h3] at h2
    exact Option.some.inj h2
  have h4 : (v + (h - 1) / 2 + ((j : Int) / w - (h - 1) / 2)) * W + (u + (w - 1) / 2 + ((j : Int) % w - (w - 1) / 2)) = (v + (j : Int) / w) * W + u + (j : Int) % w := by
    have e1 : v + (h - 1) / 2 + ((j : Int) / w - (h - 1) / 2) = v + (j : Int) / w := by omega
    rw [e1]; omega
  rw [h4, h1]
  omega
/-- The statement's answer is true. -/
theorem f3_true {x0 x1 : Int} {x2 : List Int} {x3 x4 x5 x6 x7 : Int} (h0 : 0 ≤ x0 ∧ x0 ≤ 255) (h1 : 0 ≤ x1 ∧ x1 ≤ 255) (h2 : allIn 0 255 x2) (h3 : 0 ≤ x3 ∧ x3 ≤ 255) (h4 : 0 ≤ x4 ∧ x4 ≤ 255) (h5 : 0 ≤ x5 ∧ x5 ≤ 255) (h6 : 0 ≤ x6 ∧ x6 ≤ 255) (h7 : 0 ≤ x7 ∧ x7 ≤ 65535) :
    f3_m x0 x1 x2 x3 x4 x5 x6 x7 = some true := by
  have e0 : Int.tmod x0 8 = x0 % 8 := Int.tmod_eq_emod_of_nonneg h0.1
  have e1 : Int.tmod x1 8 = x1 % 8 := Int.tmod_eq_emod_of_nonneg h1.1
  have e7 : Int.tmod x7 1001 = x7 % 1001 := Int.tmod_eq_emod_of_nonneg h7.1
  have hL : w64 (Int.tmod x7 1001) = x7 % 1001 := by rw [e7, w64s (by omega) (by omega)]
  have hW : w64 (1 + (w64 (Int.tmod x0 8))) = 1 + x0 % 8 := by rw [e0, w64s (x := x0 % 8) (by omega) (by omega), w64s (by omega) (by omega)]
  have hH : w64 (1 + (w64 (Int.tmod x1 8))) = 1 + x1 % 8 := by rw [e1, w64s (x := x1 % 8) (by omega) (by omega), w64s (by omega) (by omega)]
  have bW : 1 ≤ 1 + x0 % 8 ∧ 1 + x0 % 8 ≤ 8 := by omega
  have bH : 1 ≤ 1 + x1 % 8 ∧ 1 + x1 % 8 ≤ 8 := by omega
  have bL : 0 ≤ x7 % 1001 ∧ x7 % 1001 ≤ 1000 := by omega
  generalize 1 + x0 % 8 = W at *
  generalize 1 + x1 % 8 = H at *
  generalize x7 % 1001 = L at *
  obtain ⟨pix, ep, p⟩ := f4_some bW bH h2
  obtain ⟨w, h, u, v, c⟩ := cut_some bW bH h3 h4 h5 h6
  have := c.w0; have := c.h0; have := c.u0; have := c.v0; have ha := c.area p
  obtain ⟨t, et, q, ht⟩ := f3_l0_eq p c (w * h - 0).toNat 0 FUEL [] rfl (by rw [FUEL_eq]; omega) (by omega) (by omega) rfl (fun x hx => by cases hx) (fun j hj => by omega)
  obtain ⟨MS, AS, e5, F⟩ := f5_some p q bL
  have hz := bd_cut p c q ht
  obtain ⟨b, eb, _, hb⟩ := f3_l1_eq p c q hL hz (H - 0).toNat 0 FUEL false [] rfl (by rw [FUEL_eq]; omega) (by omega) (by omega) (by simp; omega)
  have hb' := hb (by omega)
  subst hb'
  obtain ⟨M, A, g, hf⟩ := F.f1 (by omega)
  have hl := F.lm
  have e4 := f3_l4_eq (AS := AS) (MS := MS) (by omega) MS.length 0 FUEL [] (by omega) (by rw [FUEL_eq]; omega) (by omega) (by simp)
  have hdl : (dueAll w h t pix W H L 0).length ≤ 100000 := by
    rw [← found_due g, ← hf]
    have := List.length_filter_le is02 MS
    omega
  unfold f3_m
  rw [hW, hH, ep]
  simp only [Option.bind_some, c.hw, c.hh, hL]
  rw [w64s (x := W - w) (by omega) (by omega), w64s (x := W - w + 1) (by omega) (by omega), w64s (x := H - h) (by omega) (by omega), w64s (x := H - h + 1) (by omega) (by omega), if_pos (by omega), if_pos (by omega), et]
  simp only [Option.bind_some]
  rw [e5]
  simp only [Option.bind_some]
  rw [if_neg (by simp), f6_zero p q bL F]
  simp only [Option.bind_some]
  rw [if_neg (by simp), eb]
  simp only [Option.bind_some]
  rw [show f3_l4 (MS, AS, 0) FUEL 0 ([] : List M5) = _ from e4]
  simp only [Option.bind_some, List.nil_append, List.drop_zero, if_true]
  rw [hf, found_due g, f7_true hdl]
  rfl
end Go.HL.Try
