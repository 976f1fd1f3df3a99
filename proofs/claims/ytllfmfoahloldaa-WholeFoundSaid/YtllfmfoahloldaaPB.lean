/- The plain law of the search: bounds of boxes, and the search of one turn and scale; no program in sight. -/
import Derived.Test.YtllfmfoahloldaaPA
set_option linter.unusedVariables false
set_option linter.unusedSimpArgs false
namespace Go.HL.Try
open Go.HL
abbrev P3 := Int × Int × Int
/-- A stencil of the statement's kind. -/
def StenP (p : P3) : Prop := (-1000 ≤ p.1 ∧ p.1 ≤ 1000) ∧ (-1000 ≤ p.2.1 ∧ p.2.1 ≤ 1000) ∧ (0 ≤ p.2.2 ∧ p.2.2 ≤ 255)
structure Sten (s : List P3) : Prop where
  len : s.length ≤ 9
  all : ∀ p ∈ s, StenP p
def dif (pix : List Int) (W y : Int) (p : P3) (x : Int) : Int := max (p.2.2 - at' pix (y * W + x)) (0 - (p.2.2 - at' pix (y * W + x)))
def rowL (pix : List Int) (W x0 x1 : Int) (p : P3) (y : Int) : List Int := (irange (max (x0 + p.1) 0) (min (x1 + p.1) (W - 1))).map (dif pix W y p)
def cellL (pix : List Int) (W H x0 y0 x1 y1 : Int) (p : P3) : List Int := (irange (max (y0 + p.2.1) 0) (min (y1 + p.2.1) (H - 1))).flatMap (rowL pix W x0 x1 p)
def mins (a : Int) (l : List Int) : Int := l.foldl min a
def least (pix : List Int) (W H x0 y0 x1 y1 : Int) (p : P3) : Int := mins 255 (cellL pix W H x0 y0 x1 y1 p)
def sumL : List Int → Int
  | [] => 0
  | x :: l => x + sumL l
def bd (s : List P3) (pix : List Int) (W H x0 y0 x1 y1 : Int) : Int := sumL (s.map (least pix W H x0 y0 x1 y1))
theorem mins_le : ∀ (l : List Int) (a : Int), mins a l ≤ a ∧ ∀ x ∈ l, mins a l ≤ x
  | [], a => ⟨Int.le_refl a, fun x h => by cases h⟩
  | y :: l, a => by
    have ih := mins_le l (min a y)
    have e : mins a (y :: l) = mins (min a y) l := rfl
    rw [e]
    refine ⟨by omega, fun x hx => ?_⟩
    simp only [List.mem_cons] at hx
    rcases hx with rfl | hx
    · omega
    · exact ih.2 x hx
theorem mins_at : ∀ (l : List Int) (a : Int), mins a l = a ∨ mins a l ∈ l
  | [], a => .inl rfl
  | y :: l, a => by
    have e : mins a (y :: l) = mins (min a y) l := rfl
    rw [e]
    rcases mins_at l (min a y) with h | h
    · rw [h]
      rcases Int.le_total a y with k | k
      · left; omega
      · right; simp; left; omega
    · right; exact List.mem_cons_of_mem _ h
theorem mins_sub {l m : List Int} {a : Int} (h : ∀ x ∈ l, x ∈ m) : mins a m ≤ mins a l := by
  rcases mins_at l a with e | e
  · rw [e]; exact (mins_le m a).1
  · exact (mins_le m a).2 _ (h _ e)
theorem sumL_le : ∀ (l : List P3) (f g : P3 → Int), (∀ p ∈ l, f p ≤ g p) → sumL (l.map f) ≤ sumL (l.map g)
  | [], f, g, _ => Int.le_refl _
  | p :: l, f, g, h => by
    have h1 := h p (List.mem_cons_self ..)
    have h2 := sumL_le l f g fun q hq => h q (List.mem_cons_of_mem _ hq)
    simp only [List.map_cons, sumL]; omega
theorem sumL_bound : ∀ (l : List P3) (f : P3 → Int) (m : Int), (∀ p ∈ l, 0 ≤ f p ∧ f p ≤ m) → 0 ≤ sumL (l.map f) ∧ sumL (l.map f) ≤ l.length * m
  | [], f, m, _ => by simp [sumL]
  | p :: l, f, m, h => by
    have h1 := h p (List.mem_cons_self ..)
    have h2 := sumL_bound l f m fun q hq => h q (List.mem_cons_of_mem _ hq)
    simp only [List.map_cons, sumL, List.length_cons]
    have : ((l.length + 1 : Nat) : Int) * m = l.length * m + m := by
      rw [Int.natCast_add, Int.add_mul]; simp
    omega
theorem idx_ok {W H : Int} {pix : List Int} (p : Pic W H pix) {x y : Int} (hx : 0 ≤ x ∧ x ≤ W - 1) (hy : 0 ≤ y ∧ y ≤ H - 1) : 0 ≤ y * W + x ∧ y * W + x < (pix.length : Int) ∧ 0 ≤ y * W ∧ y * W ≤ 64 := by
  have h1 : 0 ≤ y * W := Int.mul_nonneg hy.1 (by have := p.w0; omega)
  have h2 : y * W ≤ (H - 1) * W := Int.mul_le_mul_of_nonneg_right hy.2 (by have := p.w0; omega)
  have h3 : (H - 1) * W = W * H - W := by rw [Int.sub_mul, Int.one_mul, Int.mul_comm]
  have := p.len; have := p.area
  omega
theorem dif_ok {W H : Int} {pix : List Int} (p : Pic W H pix) {q : P3} (hq : StenP q) {x y : Int} (hx : 0 ≤ x ∧ x ≤ W - 1) (hy : 0 ≤ y ∧ y ≤ H - 1) : 0 ≤ dif pix W y q x ∧ dif pix W y q x ≤ 255 := by
  have h1 := idx_ok p hx hy
  have h2 := p.val _ (at_mem pix _ h1.1 h1.2.1)
  have h3 := hq.2.2
  unfold dif
  omega
theorem cell_ok {W H : Int} {pix : List Int} (p : Pic W H pix) {q : P3} (hq : StenP q) {x0 y0 x1 y1 : Int} : ∀ v ∈ cellL pix W H x0 y0 x1 y1 q, 0 ≤ v ∧ v ≤ 255 := by
  intro v hv
  obtain ⟨y, hy, hv⟩ := List.mem_flatMap.1 hv
  obtain ⟨x, hx, rfl⟩ := List.mem_map.1 hv
  have hx' := mem_irange.1 hx
  have hy' := mem_irange.1 hy
  exact dif_ok p hq (by omega) (by omega)
theorem mins_bound {l : List Int} {a m : Int} (ha : 0 ≤ a ∧ a ≤ m) (h : ∀ v ∈ l, 0 ≤ v ∧ v ≤ m) : 0 ≤ mins a l ∧ mins a l ≤ m := by
  refine ⟨?_, by have := (mins_le l a).1; omega⟩
  rcases mins_at l a with e | e
  · omega
  · exact (h _ e).1
theorem least_ok {W H : Int} {pix : List Int} (p : Pic W H pix) {q : P3} (hq : StenP q) {x0 y0 x1 y1 : Int} : 0 ≤ least pix W H x0 y0 x1 y1 q ∧ least pix W H x0 y0 x1 y1 q ≤ 255 :=
  mins_bound (by omega) (cell_ok p hq)
theorem bd_ok {W H : Int} {pix : List Int} (p : Pic W H pix) {s : List P3} (hs : Sten s) {x0 y0 x1 y1 : Int} : 0 ≤ bd s pix W H x0 y0 x1 y1 ∧ bd s pix W H x0 y0 x1 y1 ≤ 2295 := by
  have h1 := sumL_bound s (least pix W H x0 y0 x1 y1) 255 fun q hq => least_ok p (hs.all q hq)
  have h2 := hs.len
  unfold bd; omega
theorem bd_mono {W H : Int} {pix : List Int} {s : List P3} {x0 y0 x1 y1 u0 v0 u1 v1 : Int} (h0 : x0 ≤ u0) (h1 : u1 ≤ x1) (h2 : y0 ≤ v0) (h3 : v1 ≤ y1) :
    bd s pix W H x0 y0 x1 y1 ≤ bd s pix W H u0 v0 u1 v1 := by
  refine sumL_le s _ _ fun p _ => mins_sub fun v hv => ?_
  obtain ⟨y, hy, hv⟩ := List.mem_flatMap.1 hv
  obtain ⟨x, hx, rfl⟩ := List.mem_map.1 hv
  have hx' := mem_irange.1 hx
  have hy' := mem_irange.1 hy
  exact List.mem_flatMap.2 ⟨y, mem_irange.2 (by omega), List.mem_map.2 ⟨x, mem_irange.2 (by omega), rfl⟩⟩
section f13
variable {W H : Int} {pix : List Int} (p : Pic W H pix) {s : List P3} (hs : Sten s) {x0 y0 x1 y1 : Int} (b : BoxOk W H x0 y0 x1 y1)
include p hs b
theorem f13_l2_eq (i : Int) (hi : 0 ≤ i ∧ i < (s.length : Int)) (y : Int) (hy : 0 ≤ y ∧ y ≤ H - 1) : ∀ (n : Nat) (x : Int) (k : Nat) (a : Int), (min (x1 + (at' s i).1) (W - 1) + 1 - x).toNat = n → n < k → 0 ≤ x → x ≤ 2000 →
    f13_l2 s W pix x1 i y k a x = some (mins a ((irange x (min (x1 + (at' s i).1) (W - 1))).map (dif pix W y (at' s i)))) := by
  intro n
  have := p.w0; have := p.w1; have := b.a0; have := b.a1; have := b.a2
  have hq := hs.all _ (at_mem s i hi.1 hi.2)
  generalize hQ : at' s i = q at *
  have hq1 := hq.1
  have e1 : w64 (x1 + q.1) = x1 + q.1 := w64s (by omega) (by omega)
  have e2 : w64 (W - 1) = W - 1 := w64s (by omega) (by omega)
  induction n with
  | zero =>
    intro x k a hn hk hx hx2
    obtain ⟨k, rfl⟩ : ∃ k', k = k' + 1 := ⟨k - 1, by omega⟩
    unfold f13_l2
    rw [hQ, e1, e2, if_neg (by omega), irange_nil (by omega)]; rfl
  | succ n ih =>
    intro x k a hn hk hx hx2
    obtain ⟨k, rfl⟩ : ∃ k', k = k' + 1 := ⟨k - 1, by omega⟩
    have h1 := idx_ok p (x := x) (y := y) (by omega) hy
    have h2 := p.val _ (at_mem pix _ h1.1 h1.2.1)
    have h3 := hq.2.2
    unfold f13_l2
    rw [hQ, e1, e2, if_pos (by omega), w64s (x := y * W) (by omega) (by omega), w64s (x := y * W + x) (by omega) (by omega), if_pos ⟨h1.1, h1.2.1⟩,
      w64s (x := q.2.2 - at' pix (y * W + x)) (by omega) (by omega), w64s (x := 0 - (q.2.2 - at' pix (y * W + x))) (by omega) (by omega), w64s (x := x + 1) (by omega) (by omega),
      ih (x + 1) k _ (by omega) (by omega) (by omega) (by omega), irange_cons (a := x) (by omega)]
    rfl
theorem f13_l1_eq (i : Int) (hi : 0 ≤ i ∧ i < (s.length : Int)) : ∀ (n : Nat) (y : Int) (k : Nat) (a : Int), (min (y1 + (at' s i).2.1) (H - 1) + 1 - y).toNat = n → n < k → 0 ≤ y → y ≤ 2000 →
    f13_l1 s W H pix x0 x1 y1 i k a y = some (mins a ((irange y (min (y1 + (at' s i).2.1) (H - 1))).flatMap (rowL pix W x0 x1 (at' s i)))) := by
  intro n
  have := p.w0; have := p.w1; have := p.h0; have := p.h1; have := b.a0; have := b.a1; have := b.a2; have := b.b0; have := b.b1; have := b.b2
  have hq := hs.all _ (at_mem s i hi.1 hi.2)
  have key := fun y hy n x k a h1 h2 h3 h4 => f13_l2_eq p hs b i hi y hy n x k a h1 h2 h3 h4
  generalize hQ : at' s i = q at *
  have hq1 := hq.1
  have hq2 := hq.2.1
  have e1 : w64 (y1 + q.2.1) = y1 + q.2.1 := w64s (by omega) (by omega)
  have e2 : w64 (H - 1) = H - 1 := w64s (by omega) (by omega)
  have e3 : w64 (x0 + q.1) = x0 + q.1 := w64s (by omega) (by omega)
  induction n with
  | zero =>
    intro y k a hn hk hy hy2
    obtain ⟨k, rfl⟩ : ∃ k', k = k' + 1 := ⟨k - 1, by omega⟩
    unfold f13_l1
    rw [hQ, e1, e2, if_neg (by omega), irange_nil (by omega)]; rfl
  | succ n ih =>
    intro y k a hn hk hy hy2
    obtain ⟨k, rfl⟩ : ∃ k', k = k' + 1 := ⟨k - 1, by omega⟩
    unfold f13_l1
    rw [hQ, e1, e2, e3, if_pos (by omega), key y (by omega) _ _ _ a rfl (by rw [FUEL_eq]; omega) (by omega) (by omega), Option.bind_some, w64s (x := y + 1) (by omega) (by omega),
      ih (y + 1) k _ (by omega) (by omega) (by omega) (by omega), irange_cons (a := y) (by omega), List.flatMap_cons]
    unfold mins rowL
    rw [List.foldl_append]
theorem f13_l0_eq : ∀ (n i k : Nat) (v : Int), s.length - i = n → n < k → i ≤ s.length → 0 ≤ v → v ≤ 255 * i →
    f13_l0 s W H pix x0 y0 x1 y1 k v (i : Int) = some (v + sumL ((s.drop i).map (least pix W H x0 y0 x1 y1))) := by
  intro n
  have := p.w0; have := p.w1; have := p.h0; have := p.h1; have := b.a0; have := b.a1; have := b.a2; have := b.b0; have := b.b1; have := b.b2
  have hl := hs.len
  induction n with
  | zero =>
    intro i k v hn hk hi hv hv2
    obtain ⟨k, rfl⟩ : ∃ k', k = k' + 1 := ⟨k - 1, by omega⟩
    unfold f13_l0
    rw [if_neg (by omega), List.drop_of_length_le (by omega)]
    simp [sumL]
  | succ n ih =>
    intro i k v hn hk hi hv hv2
    obtain ⟨k, rfl⟩ : ∃ k', k = k' + 1 := ⟨k - 1, by omega⟩
    have hi' : 0 ≤ (i : Int) ∧ (i : Int) < (s.length : Int) := by omega
    have hat : at' s (i : Int) = s[i] := at_nat s i (by omega)
    have hq := hs.all _ (at_mem s (i : Int) hi'.1 hi'.2)
    have key := fun n y k a h1 h2 h3 h4 => f13_l1_eq p hs b (i : Int) hi' n y k a h1 h2 h3 h4
    unfold f13_l0
    rw [hat] at hq key ⊢
    have hq2 := hq.2.1
    have e3 : w64 (y0 + (s[i]).2.1) = y0 + (s[i]).2.1 := w64s (by omega) (by omega)
    have hle := least_ok p hq (x0 := x0) (y0 := y0) (x1 := x1) (y1 := y1)
    rw [if_pos (by omega), if_pos hi', e3, key _ _ _ 255 rfl (by rw [FUEL_eq]; omega) (by omega) (by omega)]
    simp only [Option.bind_some]
    rw [show mins 255 ((irange (max (y0 + s[i].2.1) 0) (min (y1 + s[i].2.1) (H - 1))).flatMap (rowL pix W x0 x1 s[i])) = least pix W H x0 y0 x1 y1 s[i] from rfl,
      w64s (x := v + least pix W H x0 y0 x1 y1 s[i]) (by omega) (by omega), w64s (x := (i : Int) + 1) (by omega) (by omega)]
    rw [show ((i : Int) + 1) = ((i + 1 : Nat) : Int) by omega, ih (i + 1) k _ (by omega) (by omega) (by omega) (by omega) (by omega)]
    rw [List.drop_eq_getElem_cons (i := i) (by omega), List.map_cons]
    simp only [sumL]
    congr 1; omega
theorem f13_eq (t c : Int) : f13_m s W H pix x0 y0 x1 y1 t c = some (bd s pix W H x0 y0 x1 y1) := by
  unfold f13_m
  rw [show (f13_l0 s W H pix x0 y0 x1 y1 FUEL 0 0) = f13_l0 s W H pix x0 y0 x1 y1 FUEL 0 ((0 : Nat) : Int) from rfl,
    f13_l0_eq p hs b s.length 0 FUEL 0 (by omega) (by have := hs.len; rw [FUEL_eq]; omega) (by omega) (by omega) (by omega)]
  simp [bd]
end f13
/-! ### stencilOf -/
theorem f11_loop {w h : Int} {t : List Int} (q : Tem w h t) {tu sc : Int} (h1 : 0 ≤ tu ∧ tu ≤ 11) (h2 : 1 ≤ sc ∧ sc ≤ 4) : ∀ (n i k : Nat) (o : List P3), t.length - i = n → n < k → i ≤ t.length → o.length = i → (∀ p ∈ o, StenP p) →
    (tu = 0 → sc = 2 → ∀ j : Nat, j < i → o[j]? = some ((j : Int) % w - (w - 1) / 2, (j : Int) / w - (h - 1) / 2, at' t (j : Int))) →
    ∃ s, f11_l0 w h t tu sc k (i : Int) o = some s ∧ s.length = t.length ∧ (∀ p ∈ s, StenP p) ∧
      (tu = 0 → sc = 2 → ∀ j : Nat, j < t.length → s[j]? = some ((j : Int) % w - (w - 1) / 2, (j : Int) / w - (h - 1) / 2, at' t (j : Int))) := by
  intro n
  have := q.w0; have := q.w1; have := q.h0; have := q.h1; have := q.len; have := q.area
  induction n with
  | zero =>
    intro i k o hn hk hi ho hS hE
    obtain ⟨k, rfl⟩ : ∃ k', k = k' + 1 := ⟨k - 1, by omega⟩
    have : i = t.length := by omega
    subst this
    unfold f11_l0
    rw [if_neg (by omega)]
    exact ⟨o, rfl, ho, hS, hE⟩
  | succ n ih =>
    intro i k o hn hk hi ho hS hE
    obtain ⟨k, rfl⟩ : ∃ k', k = k' + 1 := ⟨k - 1, by omega⟩
    unfold f11_l0
    have hv := q.val _ (at_mem t (i : Int) (by omega) (by omega))
    have e1 : Int.tmod (i : Int) w = (i : Int) % w := Int.tmod_eq_emod_of_nonneg (by omega)
    have e2 : Int.tdiv (i : Int) w = (i : Int) / w := Int.tdiv_eq_ediv_of_nonneg (by omega)
    have h3 := Int.emod_nonneg (i : Int) (show w ≠ 0 by omega)
    have h4 := Int.emod_lt_of_pos (i : Int) (show 0 < w by omega)
    have h5 : 0 ≤ (i : Int) / w := Int.ediv_nonneg (by omega) (by omega)
    have h6 : (i : Int) / w ≤ (i : Int) := Int.ediv_le_self _ (by omega)
    obtain ⟨a, b, hab, ha, hb, hex⟩ := f22_some (t := t) ⟨q.w0, q.w1⟩ ⟨q.h0, q.h1⟩ h1 h2 (i := (i : Int) % w) (j := (i : Int) / w) (by omega) (by omega)
    rw [if_pos (by omega), if_pos (by omega), if_pos hv.1, if_pos (by omega), if_pos (by omega), e1, e2, w64s (x := (i : Int) / w) (by omega) (by omega), hab]
    simp only [Option.bind_some]
    rw [if_pos (by simp; omega), w64s (x := (i : Int) + 1) (by omega) (by omega), show ((i : Int) + 1) = ((i + 1 : Nat) : Int) by omega]
    refine ih (i + 1) k _ (by omega) (by omega) (by omega) (by simp [ho]) ?_ ?_
    · intro p hp
      rcases List.mem_append.1 hp with hp | hp
      · exact hS p hp
      · simp at hp; subst hp; exact ⟨ha, hb, hv⟩
    · intro ht hc j hj
      by_cases e : j < i
      · rw [List.getElem?_append_left (by omega)]; exact hE ht hc j e
      · have : j = i := by omega
        subst this
        rw [List.getElem?_append_right (by omega), ho]
        obtain ⟨r1, r2⟩ := hex ht hc
        simp [r1, r2]
theorem f11_some {w h : Int} {t : List Int} (q : Tem w h t) {tu sc : Int} (h1 : 0 ≤ tu ∧ tu ≤ 11) (h2 : 1 ≤ sc ∧ sc ≤ 4) :
    ∃ s, f11_m w h t tu sc = some s ∧ Sten s ∧ s.length = t.length ∧
      (tu = 0 → sc = 2 → ∀ j : Nat, j < t.length → s[j]? = some ((j : Int) % w - (w - 1) / 2, (j : Int) / w - (h - 1) / 2, at' t (j : Int))) := by
  have := q.len; have := q.area
  obtain ⟨s, e, h3, h4, h5⟩ := f11_loop q h1 h2 t.length 0 FUEL [] (by omega) (by rw [FUEL_eq]; omega) (by omega) rfl (fun p hp => by cases hp) (fun _ _ j hj => by omega)
  refine ⟨s, ?_, ⟨by omega, h4⟩, h3, h5⟩
  unfold f11_m
  rw [show (0 : Int) = ((0 : Nat) : Int) from rfl, e]; rfl
/-! ### The search of a box -/
abbrev T5 := Int × Int × Int × Int × Int
abbrev A6 := Int × Int × Int × Int × Int × Int
abbrev Q2 := Int × Int
def poses (x0 y0 x1 y1 : Int) : List Q2 := (irange y0 y1).flatMap fun y => (irange x0 x1).map fun x => (x, y)
theorem mem_poses {x0 y0 x1 y1 : Int} {q : Q2} : q ∈ poses x0 y0 x1 y1 ↔ (x0 ≤ q.1 ∧ q.1 ≤ x1) ∧ (y0 ≤ q.2 ∧ q.2 ≤ y1) := by
  unfold poses
  rw [List.mem_flatMap]
  constructor
  · rintro ⟨y, hy, h⟩
    obtain ⟨x, hx, rfl⟩ := List.mem_map.1 h
    exact ⟨mem_irange.1 hx, mem_irange.1 hy⟩
  · rintro ⟨hx, hy⟩
    exact ⟨q.2, mem_irange.2 hy, List.mem_map.2 ⟨q.1, mem_irange.2 hx, rfl⟩⟩
theorem poses_one (x y : Int) : poses x y x y = [(x, y)] := by unfold poses; rw [irange_one, irange_one]; rfl
theorem flatMap_perm {α β : Type} (l : List α) (f g : α → List β) : (l.flatMap fun x => f x ++ g x).Perm (l.flatMap f ++ l.flatMap g) := by
  induction l with
  | nil => exact List.Perm.refl _
  | cons a l ih =>
    simp only [List.flatMap_cons]
    have h1 : (f a ++ g a ++ l.flatMap fun x => f x ++ g x).Perm (f a ++ g a ++ (l.flatMap f ++ l.flatMap g)) := ih.append_left _
    refine h1.trans ?_
    rw [List.append_assoc, List.append_assoc]
    refine List.Perm.append_left _ ?_
    rw [← List.append_assoc, ← List.append_assoc]
    exact List.Perm.append_right _ List.perm_append_comm
theorem poses_x {x0 y0 x1 y1 c : Int} (h1 : x0 ≤ c + 1) (h2 : c ≤ x1) : (poses x0 y0 x1 y1).Perm (poses x0 y0 c y1 ++ poses (c + 1) y0 x1 y1) := by
  unfold poses
  have : (fun (y : Int) => (irange x0 x1).map fun x => (x, y)) = fun y => ((irange x0 c).map fun x => (x, y)) ++ ((irange (c + 1) x1).map fun x => (x, y)) := by
    funext y
    rw [irange_split h1 h2, List.map_append]
  rw [this]
  exact flatMap_perm _ _ _
theorem poses_y {x0 y0 x1 y1 c : Int} (h1 : y0 ≤ c + 1) (h2 : c ≤ y1) : poses x0 y0 x1 y1 = poses x0 y0 x1 c ++ poses x0 (c + 1) x1 y1 := by
  unfold poses
  rw [irange_split h1 h2, List.flatMap_append]
def poseM (m : T5) : Q2 := (m.1, m.2.1)
def posesA (a : A6) : List Q2 := poses a.1 a.2.1 a.2.2.1 a.2.2.2.1
/-- What the search of a box leaves. -/
structure Good (s : List P3) (pix : List Int) (W H L t c x0 y0 x1 y1 : Int) (M : List T5) (A : List A6) : Prop where
  m : ∀ m ∈ M, (x0 ≤ m.1 ∧ m.1 ≤ x1) ∧ (y0 ≤ m.2.1 ∧ m.2.1 ≤ y1) ∧ m.2.2.1 = t ∧ m.2.2.2.1 = c ∧ m.2.2.2.2 = bd s pix W H m.1 m.2.1 m.1 m.2.1 ∧ m.2.2.2.2 ≤ L
  a : ∀ a ∈ A, (x0 ≤ a.1 ∧ a.1 ≤ a.2.2.1 ∧ a.2.2.1 ≤ x1) ∧ (y0 ≤ a.2.1 ∧ a.2.1 ≤ a.2.2.2.1 ∧ a.2.2.2.1 ≤ y1) ∧ a.2.2.2.2.1 = t ∧ a.2.2.2.2.2 = c ∧ L < bd s pix W H a.1 a.2.1 a.2.2.1 a.2.2.2.1
  cov : (M.map poseM ++ A.flatMap posesA).Perm (poses x0 y0 x1 y1)
theorem perm4 {α : Type} (a b c d : List α) : (a ++ b ++ (c ++ d)).Perm (a ++ c ++ (b ++ d)) := by
  simp only [List.append_assoc]
  refine List.Perm.append_left _ ?_
  rw [← List.append_assoc, ← List.append_assoc]
  exact List.Perm.append_right _ List.perm_append_comm
theorem Good.join {s : List P3} {pix : List Int} {W H L t c x0 y0 x1 y1 p0 q0 p1 q1 u0 v0 u1 v1 : Int} {M M' : List T5} {A A' : List A6} (g : Good s pix W H L t c p0 q0 p1 q1 M A) (g' : Good s pix W H L t c u0 v0 u1 v1 M' A')
    (h : x0 ≤ p0 ∧ p1 ≤ x1 ∧ y0 ≤ q0 ∧ q1 ≤ y1) (h' : x0 ≤ u0 ∧ u1 ≤ x1 ∧ y0 ≤ v0 ∧ v1 ≤ y1) (hp : (poses x0 y0 x1 y1).Perm (poses p0 q0 p1 q1 ++ poses u0 v0 u1 v1)) : Good s pix W H L t c x0 y0 x1 y1 (M ++ M') (A ++ A') := by
  refine ⟨fun m hm => ?_, fun a ha => ?_, ?_⟩
  · rcases List.mem_append.1 hm with hm | hm
    · have := g.m m hm; exact ⟨by omega, by omega, this.2.2⟩
    · have := g'.m m hm; exact ⟨by omega, by omega, this.2.2⟩
  · rcases List.mem_append.1 ha with ha | ha
    · have := g.a a ha; exact ⟨by omega, by omega, this.2.2⟩
    · have := g'.a a ha; exact ⟨by omega, by omega, this.2.2⟩
  · rw [List.map_append, List.flatMap_append]
    refine (perm4 _ _ _ _).trans ?_
    exact (g.cov.append g'.cov).trans hp.symm
theorem poses_len (x0 y0 x1 y1 : Int) : (poses x0 y0 x1 y1).length = (y1 + 1 - y0).toNat * (x1 + 1 - x0).toNat := by
  unfold poses
  rw [List.length_flatMap]
  simp only [List.length_map, irange_len]
  rw [List.map_const', List.sum_replicate_nat, irange_len]
theorem Good.len {s : List P3} {pix : List Int} {W H L t c x0 y0 x1 y1 : Int} {M : List T5} {A : List A6} (g : Good s pix W H L t c x0 y0 x1 y1 M A) : M.length + A.length ≤ (poses x0 y0 x1 y1).length := by
  have h1 := g.cov.length_eq
  rw [List.length_append, List.length_map] at h1
  have h3 : A.length ≤ (A.flatMap posesA).length := by
    have key : ∀ A : List A6, (∀ a ∈ A, a.1 ≤ a.2.2.1 ∧ a.2.1 ≤ a.2.2.2.1) → A.length ≤ (A.flatMap posesA).length := by
      intro A
      induction A with
      | nil => intro _; exact Nat.le_refl _
      | cons a A ih =>
        intro h
        have h4 := ih fun b hb => h b (List.mem_cons_of_mem _ hb)
        have h5 := h a (List.mem_cons_self ..)
        rw [List.flatMap_cons, List.length_append, List.length_cons]
        have h6 : 0 < (posesA a).length := List.length_pos_iff_exists_mem.2 ⟨(a.1, a.2.1), mem_poses.2 ⟨⟨Int.le_refl _, h5.1⟩, ⟨Int.le_refl _, h5.2⟩⟩⟩
        omega
    exact key A fun a ha => ⟨(g.a a ha).1.2.1, (g.a a ha).2.1.2.1⟩
  omega
theorem f12_some {W H : Int} {pix : List Int} (p : Pic W H pix) {s : List P3} (hs : Sten s) {L t c : Int} : ∀ (n k : Nat) (x0 y0 x1 y1 : Int) (ms : List T5) (al : List A6), ((x1 - x0) + (y1 - y0)).toNat < n → n < k → BoxOk W H x0 y0 x1 y1 →
    ms.length + (poses x0 y0 x1 y1).length ≤ 10000 → al.length + (poses x0 y0 x1 y1).length ≤ 10000 → ∃ M A, f12_m k x0 y0 x1 y1 t c s W H pix L ms al = some (ms ++ M, al ++ A) ∧ Good s pix W H L t c x0 y0 x1 y1 M A := by
  intro n
  have := p.w0; have := p.w1; have := p.h0; have := p.h1
  induction n with
  | zero => intro k x0 y0 x1 y1 ms al h; omega
  | succ n ih =>
    intro k x0 y0 x1 y1 ms al hn hk b hm ha
    have := b.a0; have := b.a1; have := b.a2; have := b.b0; have := b.b1; have := b.b2
    obtain ⟨k, rfl⟩ : ∃ k', k = k' + 1 := ⟨k - 1, by omega⟩
    unfold f12_m
    rw [f13_eq p hs b]
    simp only [Option.bind_some]
    by_cases h1 : L < bd s pix W H x0 y0 x1 y1
    · rw [if_pos h1, if_pos (by simp; omega)]
      refine ⟨[], [(x0, y0, x1, y1, t, c)], by simp, ⟨fun m h => by (simp at h), fun a h => ?_, ?_⟩⟩
      · simp at h; subst h
        exact ⟨⟨Int.le_refl _, b.a1, Int.le_refl _⟩, ⟨Int.le_refl _, b.b1, Int.le_refl _⟩, rfl, rfl, h1⟩
      · simp [posesA]
    · rw [if_neg h1, w64s (x := x1 - x0) (by omega) (by omega), w64s (x := y1 - y0) (by omega) (by omega)]
      have hsp : ∀ p0 q0 p1 q1 u0 v0 u1 v1 : Int, BoxOk W H p0 q0 p1 q1 → BoxOk W H u0 v0 u1 v1 → ((p1 - p0) + (q1 - q0)).toNat < n → ((u1 - u0) + (v1 - v0)).toNat < n →
          (x0 ≤ p0 ∧ p1 ≤ x1 ∧ y0 ≤ q0 ∧ q1 ≤ y1) → (x0 ≤ u0 ∧ u1 ≤ x1 ∧ y0 ≤ v0 ∧ v1 ≤ y1) → (poses x0 y0 x1 y1).Perm (poses p0 q0 p1 q1 ++ poses u0 v0 u1 v1) →
          ∃ M A, ((f12_m k p0 q0 p1 q1 t c s W H pix L ms al).bind fun r1 => (f12_m k u0 v0 u1 v1 t c s W H pix L r1.1 r1.2).bind fun r2 => some (r2.1, r2.2)) = some (ms ++ M, al ++ A) ∧ Good s pix W H L t c x0 y0 x1 y1 M A := by
        intro p0 q0 p1 q1 u0 v0 u1 v1 b1 b2 n1 n2 i1 i2 hp
        have hl := hp.length_eq
        rw [List.length_append] at hl
        obtain ⟨M, A, e1, g1⟩ := ih k p0 q0 p1 q1 ms al n1 (by omega) b1 (by omega) (by omega)
        have l1 := g1.len
        obtain ⟨M', A', e2, g2⟩ := ih k u0 v0 u1 v1 (ms ++ M) (al ++ A) n2 (by omega) b2 (by rw [List.length_append]; omega) (by rw [List.length_append]; omega)
        refine ⟨M ++ M', A ++ A', ?_, g1.join g2 i1 i2 hp⟩
        rw [e1, Option.bind_some, e2, Option.bind_some, List.append_assoc, List.append_assoc]
      by_cases h2 : x1 - x0 = 0 ∧ y1 - y0 = 0
      · have e1 : x1 = x0 := by omega
        have e2 : y1 = y0 := by omega
        subst e1 e2
        simp only [h2.1, h2.2, decide_true, Option.bind_some, if_true]
        rw [if_pos (by simp; omega)]
        refine ⟨[(x1, y1, t, c, bd s pix W H x1 y1 x1 y1)], [], by simp, ⟨fun m h => ?_, fun a h => by (simp at h), ?_⟩⟩
        · simp at h; subst h
          exact ⟨⟨Int.le_refl _, Int.le_refl _⟩, ⟨Int.le_refl _, Int.le_refl _⟩, rfl, rfl, rfl, Int.not_lt.1 h1⟩
        · simp [poseM, poses_one]
      · have hb : (if x1 - x0 = 0 then some (decide (y1 - y0 = 0)) else some false) = some false := by
          split
          · rw [decide_eq_false (by omega)]
          · rfl
        rw [hb]
        simp only [Option.bind_some]
        rw [if_neg (by decide)]
        split
        · rename_i h3
          generalize hc : (x0 + x1) / 2 = m
          rw [w64s (x := x0 + x1) (by omega) (by omega), hc, w64s (x := m + 1) (by omega) (by omega)]
          exact hsp x0 y0 m y1 (m + 1) y0 x1 y1 ⟨by omega, by omega, by omega, by omega, by omega, by omega⟩ ⟨by omega, by omega, by omega, by omega, by omega, by omega⟩ (by omega) (by omega) (by omega) (by omega) (poses_x (by omega) (by omega))
        · rename_i h3
          generalize hc : (y0 + y1) / 2 = m
          rw [w64s (x := y0 + y1) (by omega) (by omega), hc, w64s (x := m + 1) (by omega) (by omega)]
          exact hsp x0 y0 x1 m x0 (m + 1) x1 y1 ⟨by omega, by omega, by omega, by omega, by omega, by omega⟩ ⟨by omega, by omega, by omega, by omega, by omega, by omega⟩ (by omega) (by omega) (by omega) (by omega) (by rw [poses_y (c := m) (by omega) (by omega)])
end Go.HL.Try
