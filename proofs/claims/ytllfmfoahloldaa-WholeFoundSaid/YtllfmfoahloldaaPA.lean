/- The plain law of the search: ranges of numbers, what the small functions of the search answer; no program in sight. -/
import Derived.Test.YtllfmfoahloldaaFA
set_option linter.unusedVariables false
set_option linter.unusedSimpArgs false
namespace Go.HL.Try
open Go.HL
theorem w64s {x : Int} (h0 : -1000000000000 ≤ x) (h1 : x ≤ 1000000000000) : w64 x = x := w64_id (by omega) (by omega)
theorem at_nat {E : Type} [Inhabited E] (xs : List E) (i : Nat) (h : i < xs.length) : at' xs (i : Int) = xs[i] := by
  unfold at'
  rw [show ((i : Int)).toNat = i from rfl, List.getD_eq_getElem?_getD, List.getElem?_eq_getElem h]
  rfl
theorem at_int {E : Type} [Inhabited E] (xs : List E) (i : Int) (h0 : 0 ≤ i) (h : i < (xs.length : Int)) : at' xs i = xs[i.toNat]'(by omega) := by
  unfold at'
  rw [List.getD_eq_getElem?_getD, List.getElem?_eq_getElem (by omega)]
  rfl
theorem at_mem {E : Type} [Inhabited E] (xs : List E) (i : Int) (h0 : 0 ≤ i) (h : i < (xs.length : Int)) : at' xs i ∈ xs := by
  rw [at_int xs i h0 h]; exact List.getElem_mem _
/-- The numbers from a to b. -/
def irange (a b : Int) : List Int := (List.range (b + 1 - a).toNat).map fun (k : Nat) => a + k
theorem irange_nil {a b : Int} (h : b < a) : irange a b = [] := by
  unfold irange
  rw [show (b + 1 - a).toNat = 0 by omega]; rfl
theorem irange_cons {a b : Int} (h : a ≤ b) : irange a b = a :: irange (a + 1) b := by
  unfold irange
  rw [show (b + 1 - a).toNat = (b + 1 - (a + 1)).toNat + 1 by omega, List.range_succ_eq_map]
  simp only [List.map_cons, List.map_map]
  congr 1
  · simp
  · apply List.map_congr_left
    intro k _
    simp only [Function.comp]
    omega
theorem mem_irange {a b x : Int} : x ∈ irange a b ↔ a ≤ x ∧ x ≤ b := by
  unfold irange
  simp only [List.mem_map, List.mem_range]
  constructor
  · rintro ⟨k, hk, rfl⟩; omega
  · rintro ⟨h1, h2⟩; exact ⟨(x - a).toNat, by omega, by omega⟩
theorem irange_one (a : Int) : irange a a = [a] := by rw [irange_cons (Int.le_refl a), irange_nil (by omega)]
theorem irange_split {a b c : Int} (h1 : a ≤ c + 1) (h2 : c ≤ b) : irange a b = irange a c ++ irange (c + 1) b := by
  have key : ∀ (n : Nat) (a : Int), (c + 1 - a).toNat = n → a ≤ c + 1 → irange a b = irange a c ++ irange (c + 1) b := by
    intro n
    induction n with
    | zero =>
      intro a hn ha
      have : a = c + 1 := by omega
      subst this
      rw [irange_nil (a := c + 1) (b := c) (by omega)]; rfl
    | succ n ih =>
      intro a hn ha
      rw [irange_cons (a := a) (b := b) (by omega), irange_cons (a := a) (b := c) (by omega), ih (a + 1) (by omega) (by omega)]
      rfl
  exact key _ a rfl h1
theorem irange_len (a b : Int) : (irange a b).length = (b + 1 - a).toNat := by simp [irange]
theorem irange_pair (a b : Int) : (irange a b).Pairwise (· < ·) := by
  have key : ∀ (n : Nat) (a : Int), (b + 1 - a).toNat = n → (irange a b).Pairwise (· < ·) := by
    intro n
    induction n with
    | zero => intro a hn; rw [irange_nil (by omega)]; exact List.Pairwise.nil
    | succ n ih =>
      intro a hn
      rw [irange_cons (by omega)]
      exact List.Pairwise.cons (fun x hx => by have := mem_irange.1 hx; omega) (ih (a + 1) (by omega))
  exact key _ a rfl
/-! ### within -/
def allIn (lo hi : Int) (xs : List Int) : Prop := ∀ x ∈ xs, lo ≤ x ∧ x ≤ hi
theorem f9_loop (lo hi : Int) (xs : List Int) (h : allIn lo hi xs) (hb : (xs.length : Int) < 1000000) : ∀ (n i k : Nat), xs.length - i = n → n < k → i ≤ xs.length → f9_l0 lo hi xs k (i : Int) = some (Sum.inl ()) := by
  intro n
  induction n with
  | zero =>
    intro i k hn hk hi
    obtain ⟨k, rfl⟩ : ∃ k', k = k' + 1 := ⟨k - 1, by omega⟩
    unfold f9_l0
    rw [if_neg (by omega)]
  | succ n ih =>
    intro i k hn hk hi
    obtain ⟨k, rfl⟩ : ∃ k', k = k' + 1 := ⟨k - 1, by omega⟩
    unfold f9_l0
    have hx := h _ (at_mem xs (i : Int) (by omega) (by omega))
    rw [if_pos (by omega), if_pos (by omega), if_neg (by omega), w64s (by omega) (by omega)]
    simp only [Option.bind_some, decide_eq_true_eq]
    rw [if_neg (by omega)]
    exact ih (i + 1) k (by omega) (by omega) (by omega)
theorem f9_true {lo hi : Int} {xs : List Int} (h : allIn lo hi xs) (hb : (xs.length : Int) < 1000000) : f9_m lo hi xs = some true := by
  unfold f9_m
  rw [FUEL_eq, show (0 : Int) = ((0 : Nat) : Int) from rfl, f9_loop lo hi xs h hb xs.length 0 _ (by omega) (by omega) (by omega)]
  rfl
theorem f49_loop (lo hi : Int) (xs : List Int) (h : allIn lo hi xs) (hb : (xs.length : Int) < 1000000) : ∀ (n i k : Nat), xs.length - i = n → n < k → i ≤ xs.length → f49_l0 lo hi xs k (i : Int) = some (Sum.inl ()) := by
  intro n
  induction n with
  | zero =>
    intro i k hn hk hi
    obtain ⟨k, rfl⟩ : ∃ k', k = k' + 1 := ⟨k - 1, by omega⟩
    unfold f49_l0
    rw [if_neg (by omega)]
  | succ n ih =>
    intro i k hn hk hi
    obtain ⟨k, rfl⟩ : ∃ k', k = k' + 1 := ⟨k - 1, by omega⟩
    unfold f49_l0
    have hx := h _ (at_mem xs (i : Int) (by omega) (by omega))
    rw [if_pos (by omega), if_pos (by omega), if_neg (by omega), w64s (by omega) (by omega)]
    simp only [Option.bind_some, decide_eq_true_eq]
    rw [if_neg (by omega)]
    exact ih (i + 1) k (by omega) (by omega) (by omega)
theorem f49_true {lo hi : Int} {xs : List Int} (h : allIn lo hi xs) (hb : (xs.length : Int) < 1000000) : f49_m lo hi xs = some true := by
  unfold f49_m
  rw [FUEL_eq, show (0 : Int) = ((0 : Nat) : Int) from rfl, f49_loop lo hi xs h hb xs.length 0 _ (by omega) (by omega) (by omega)]
  rfl
theorem allIn1 {lo hi a : Int} (h : lo ≤ a ∧ a ≤ hi) : allIn lo hi [a] := by
  intro x hx; simp at hx; subst hx; exact h
theorem allIn2 {lo hi a b : Int} (h : lo ≤ a ∧ a ≤ hi) (h2 : lo ≤ b ∧ b ≤ hi) : allIn lo hi [a, b] := by
  intro x hx; simp at hx; rcases hx with rfl | rfl; exact h; exact h2
/-- An image of the statement's kind. -/
structure Pic (W H : Int) (pix : List Int) : Prop where
  w0 : 1 ≤ W
  w1 : W ≤ 8
  h0 : 1 ≤ H
  h1 : H ≤ 8
  len : (pix.length : Int) = W * H
  val : allIn 0 255 pix
theorem mul_le8 {a b m n : Int} (ha : 0 ≤ a) (hb : 0 ≤ b) (h1 : a ≤ m) (h2 : b ≤ n) : 0 ≤ a * b ∧ a * b ≤ m * n :=
  ⟨Int.mul_nonneg ha hb, Int.mul_le_mul h1 h2 hb (by omega)⟩
theorem Pic.area {W H : Int} {pix : List Int} (p : Pic W H pix) : 0 ≤ W * H ∧ W * H ≤ 64 := by
  have := mul_le8 (a := W) (b := H) (m := 8) (n := 8) (by have := p.w0; omega) (by have := p.h0; omega) p.w1 p.h1
  omega
theorem f43_true {W H : Int} {pix : List Int} (p : Pic W H pix) : f43_m W H pix = some true := by
  have := p.w0; have := p.w1; have := p.h0; have := p.h1; have := p.len; have := p.area
  unfold f43_m
  rw [f49_true (allIn2 ⟨by omega, by omega⟩ ⟨by omega, by omega⟩) (by simp)]
  simp only [Option.bind_some, if_true]
  rw [w64s (by omega) (by omega), f49_true (fun x hx => by have := p.val x hx; omega) (by omega)]
  simp [p.len]
theorem f29_zero {W H : Int} {pix : List Int} (p : Pic W H pix) : f29_m W H pix = some 0 := by
  unfold f29_m; rw [f43_true p]; rfl
theorem f19_true {W H : Int} {pix : List Int} (p : Pic W H pix) : f19_m W H pix = some true := by
  have := p.len; have := p.area
  unfold f19_m; rw [f29_zero p]
  simp only [Option.bind_some, if_true]
  rw [f9_true p.val (by omega)]; rfl
/-- A template of the statement's kind. -/
structure Tem (w h : Int) (t : List Int) : Prop where
  w0 : 1 ≤ w
  w1 : w ≤ 3
  h0 : 1 ≤ h
  h1 : h ≤ 3
  len : (t.length : Int) = w * h
  val : allIn 0 255 t
theorem Tem.area {w h : Int} {t : List Int} (p : Tem w h t) : 1 ≤ w * h ∧ w * h ≤ 9 := by
  have h1 := mul_le8 (a := w) (b := h) (m := 3) (n := 3) (by have := p.w0; omega) (by have := p.h0; omega) p.w1 p.h1
  have h2 := Int.mul_pos (a := w) (b := h) (by have := p.w0; omega) (by have := p.h0; omega)
  omega
theorem f30_loop (xs : List Int) (hb : (xs.length : Int) < 1000000) : ∀ (n i k : Nat) (v : Int), xs.length - i = n → n < k → i ≤ xs.length → ∃ r, f30_l0 xs k v (i : Int) = some r ∧ v ≤ r := by
  intro n
  induction n with
  | zero =>
    intro i k v hn hk hi
    obtain ⟨k, rfl⟩ : ∃ k', k = k' + 1 := ⟨k - 1, by omega⟩
    unfold f30_l0
    rw [if_neg (by omega)]; exact ⟨v, rfl, Int.le_refl v⟩
  | succ n ih =>
    intro i k v hn hk hi
    obtain ⟨k, rfl⟩ : ∃ k', k = k' + 1 := ⟨k - 1, by omega⟩
    unfold f30_l0
    rw [if_pos (by omega), if_pos (by omega), w64s (by omega) (by omega)]
    obtain ⟨r, h1, h2⟩ := ih (i + 1) k (max v (at' xs (i : Int))) (by omega) (by omega) (by omega)
    exact ⟨r, h1, by omega⟩
theorem f20_true {w h : Int} {t : List Int} (p : Tem w h t) : f20_m w h t = some true := by
  have := p.w0; have := p.w1; have := p.h0; have := p.h1; have := p.len; have := p.area
  unfold f20_m
  rw [f9_true (allIn2 ⟨by omega, by omega⟩ ⟨by omega, by omega⟩) (by simp)]
  simp only [Option.bind_some, if_true]
  rw [w64s (by omega) (by omega), f9_true (fun x hx => by have := p.val x hx; omega) (by omega)]
  simp only [p.len, decide_true, if_true, Option.bind_some]
  unfold f30_m
  obtain ⟨r, h1, h2⟩ := f30_loop t (by omega) (t.length - 1) 1 FUEL (at' t 0) (by omega) (by rw [FUEL_eq]; omega) (by omega)
  have h3 := p.val _ (at_mem t 0 (by omega) (by omega))
  rw [if_neg (by omega), if_pos (by omega)]
  rw [show (1 : Int) = ((1 : Nat) : Int) from rfl, h1]
  simp; omega
theorem f8_zero {W H : Int} {pix : List Int} {w h : Int} {t : List Int} (p : Pic W H pix) (q : Tem w h t) : f8_m W H pix w h t = some 0 := by
  unfold f8_m; rw [f19_true p, f20_true q]; rfl
theorem f42_true {a b : Int} (h1 : 0 ≤ a ∧ a ≤ 11) (h2 : 1 ≤ b ∧ b ≤ 4) : f42_m a b = some true := by
  unfold f42_m
  rw [f9_true (allIn1 h1) (by simp), f9_true (allIn1 h2) (by simp)]; rfl
/-- A box of places. -/
structure BoxOk (W H x0 y0 x1 y1 : Int) : Prop where
  a0 : 0 ≤ x0
  a1 : x0 ≤ x1
  a2 : x1 ≤ W - 1
  b0 : 0 ≤ y0
  b1 : y0 ≤ y1
  b2 : y1 ≤ H - 1
theorem f28_true {W H : Int} {pix : List Int} (p : Pic W H pix) {x0 y0 x1 y1 t s : Int} (b : BoxOk W H x0 y0 x1 y1) (h1 : 0 ≤ t ∧ t ≤ 11) (h2 : 1 ≤ s ∧ s ≤ 4) : f28_m W H pix x0 y0 x1 y1 t s = some true := by
  have := p.w0; have := p.w1; have := p.h0; have := p.h1; have := b.a0; have := b.a1; have := b.a2; have := b.b0; have := b.b1; have := b.b2
  unfold f28_m
  rw [w64s (x := W - 1) (by omega) (by omega), w64s (x := H - 1) (by omega) (by omega), f9_true (allIn2 ⟨by omega, by omega⟩ ⟨by omega, by omega⟩) (by simp), f9_true (allIn2 ⟨by omega, by omega⟩ ⟨by omega, by omega⟩) (by simp), f42_true h1 h2]
  simp [b.a1, b.b1]
/-! ### Offsets -/
theorem f31_eq {a : Int} (h0 : -1000000 ≤ a) (h1 : a ≤ 1000000) : f31_m a 20 = some (a / 20) := by
  unfold f31_m
  rw [if_pos (by decide)]
  have e : Int.tdiv a 20 = if 0 ≤ a then a / 20 else -((-a) / 20) := by
    split
    · rename_i h; exact Int.tdiv_eq_ediv_of_nonneg h
    · rename_i h
      have : a = -(-a) := by omega
      rw [this, Int.neg_tdiv, Int.tdiv_eq_ediv_of_nonneg (by omega)]; simp
  rw [e]
  split
  · rw [w64s (x := a / 20) (by omega) (by omega), w64s (by omega) (by omega), if_neg (by omega)]
  · rw [w64s (x := -((-a) / 20)) (by omega) (by omega), w64s (by omega) (by omega)]
    split
    · rw [w64s (by omega) (by omega)]; congr 1; omega
    · congr 1; omega
theorem f22_loop (t : Int) (h0 : 0 ≤ t) (h1 : t ≤ 11) : ∀ (n : Nat) (i : Int) (k : Nat) (a b : Int), (4 - i).toNat = n → n < k → 0 ≤ i → i ≤ 4 → (-5 ≤ a ∧ a ≤ 5) → (-5 ≤ b ∧ b ≤ 5) →
    ∃ c d, f22_l0 t k i a b = some (c, d) ∧ (-5 ≤ c ∧ c ≤ 5) ∧ (-5 ≤ d ∧ d ≤ 5) := by
  intro n
  have ht : w64 (Int.tdiv t 3) = t / 3 := by rw [Int.tdiv_eq_ediv_of_nonneg h0]; exact w64s (by omega) (by omega)
  induction n with
  | zero =>
    intro i k a b hn hk hi hi2 ha hb
    obtain ⟨k, rfl⟩ : ∃ k', k = k' + 1 := ⟨k - 1, by omega⟩
    unfold f22_l0
    rw [ht, if_neg (by omega)]
    exact ⟨a, b, rfl, ha, hb⟩
  | succ n ih =>
    intro i k a b hn hk hi hi2 ha hb
    obtain ⟨k, rfl⟩ : ∃ k', k = k' + 1 := ⟨k - 1, by omega⟩
    unfold f22_l0
    rw [ht]
    split
    · rw [w64s (x := i + 1) (by omega) (by omega), w64s (x := 0 - b) (by omega) (by omega)]
      exact ih (i + 1) k (0 - b) a (by omega) (by omega) (by omega) (by omega) (by omega) ha
    · exact ⟨a, b, rfl, ha, hb⟩
theorem mulB {a b m n : Int} (ha : -m ≤ a ∧ a ≤ m) (hb : -n ≤ b ∧ b ≤ n) : -(m * n) ≤ a * b ∧ a * b ≤ m * n := by
  have hm : 0 ≤ m := by omega
  have hn : 0 ≤ n := by omega
  rcases Int.le_total 0 a with h | h <;> rcases Int.le_total 0 b with k | k
  · have := mul_le8 h k ha.2 hb.2; omega
  · have := mul_le8 h (show 0 ≤ -b by omega) ha.2 (show -b ≤ n by omega)
    rw [Int.mul_neg] at this; omega
  · have := mul_le8 (show 0 ≤ -a by omega) k (show -a ≤ m by omega) hb.2
    rw [Int.neg_mul] at this; omega
  · have := mul_le8 (show 0 ≤ -a by omega) (show 0 ≤ -b by omega) (show -a ≤ m by omega) (show -b ≤ n by omega)
    rw [Int.neg_mul_neg] at this; omega
theorem f22_some {w h : Int} {t : List Int} (hw : 1 ≤ w ∧ w ≤ 3) (hh : 1 ≤ h ∧ h ≤ 3) {tu sc i j : Int} (h1 : 0 ≤ tu ∧ tu ≤ 11) (h2 : 1 ≤ sc ∧ sc ≤ 4) (hi : 0 ≤ i ∧ i ≤ 2) (hj : 0 ≤ j ∧ j ≤ 8) :
    ∃ a b, f22_m w h t tu sc i j = some (a, b) ∧ (-1000 ≤ a ∧ a ≤ 1000) ∧ (-1000 ≤ b ∧ b ≤ 1000) ∧ (tu = 0 → sc = 2 → a = i - (w - 1) / 2 ∧ b = j - (h - 1) / 2) := by
  unfold f22_m
  have e1 : Int.tmod tu 3 = tu % 3 := Int.tmod_eq_emod_of_nonneg h1.1
  have e3 : tu % 3 = 0 ∨ tu % 3 = 1 ∨ tu % 3 = 2 := by omega
  rw [e1, if_pos (by simp; omega)]
  have hd : ∃ p q : Int, at' ([(5, 0), (4, 3), (3, 4)] : List (Int × Int)) (tu % 3) = (p, q) ∧ (-5 ≤ p ∧ p ≤ 5) ∧ (-5 ≤ q ∧ q ≤ 5) ∧ (tu = 0 → p = 5 ∧ q = 0) := by
    rcases e3 with e | e | e <;> rw [e]
    · exact ⟨5, 0, rfl, by omega, by omega, fun _ => ⟨rfl, rfl⟩⟩
    · exact ⟨4, 3, rfl, by omega, by omega, fun h => by omega⟩
    · exact ⟨3, 4, rfl, by omega, by omega, fun h => by omega⟩
  obtain ⟨p, q, e2, hp, hq, hpq⟩ := hd
  rw [e2]
  have hloop : ∃ c d, f22_l0 tu FUEL 0 p q = some (c, d) ∧ (-5 ≤ c ∧ c ≤ 5) ∧ (-5 ≤ d ∧ d ≤ 5) ∧ (tu = 0 → c = 5 ∧ d = 0) := by
    by_cases h0 : tu = 0
    · subst h0
      rw [FUEL_eq, show (1000000000 : Nat) = 999999999 + 1 from rfl]
      unfold f22_l0
      obtain ⟨rfl, rfl⟩ := hpq rfl
      rw [if_neg (by decide)]
      exact ⟨5, 0, rfl, by omega, by omega, fun _ => ⟨rfl, rfl⟩⟩
    · obtain ⟨c, d, h3, h4, h5⟩ := f22_loop tu h1.1 h1.2 4 0 FUEL p q rfl (by rw [FUEL_eq]; omega) (by omega) (by omega) hp hq
      exact ⟨c, d, h3, h4, h5, fun h => absurd h h0⟩
  obtain ⟨c, d, h3, hc, hdd, hcd⟩ := hloop
  simp only [h3, Option.bind_some]
  rw [w64s (x := 2 * i) (by omega) (by omega), w64s (x := 2 * i - w) (by omega) (by omega), w64s (x := 2 * i - w + 1) (by omega) (by omega),
    w64s (x := 2 * j) (by omega) (by omega), w64s (x := 2 * j - h) (by omega) (by omega), w64s (x := 2 * j - h + 1) (by omega) (by omega)]
  have hu : -5 ≤ 2 * i - w + 1 ∧ 2 * i - w + 1 ≤ 5 := by omega
  have hv : -20 ≤ 2 * j - h + 1 ∧ 2 * j - h + 1 ≤ 20 := by omega
  generalize hU : 2 * i - w + 1 = u at *
  generalize hV : 2 * j - h + 1 = v at *
  have m1 := mulB hc hu; have m2 := mulB hdd hv; have m3 := mulB hdd hu; have m4 := mulB hc hv
  rw [w64s (x := c * u) (by omega) (by omega), w64s (x := d * v) (by omega) (by omega), w64s (x := d * u) (by omega) (by omega), w64s (x := c * v) (by omega) (by omega),
    w64s (x := c * u - d * v) (by omega) (by omega), w64s (x := d * u + c * v) (by omega) (by omega)]
  have m5 : -(4 * 200) ≤ sc * (c * u - d * v) ∧ sc * (c * u - d * v) ≤ 4 * 200 := mulB (by omega) (by omega)
  have m6 : -(4 * 200) ≤ sc * (d * u + c * v) ∧ sc * (d * u + c * v) ≤ 4 * 200 := mulB (by omega) (by omega)
  rw [w64s (x := sc * (c * u - d * v)) (by omega) (by omega), w64s (x := sc * (d * u + c * v)) (by omega) (by omega),
    w64s (x := sc * (c * u - d * v) + 10) (by omega) (by omega), w64s (x := sc * (d * u + c * v) + 10) (by omega) (by omega),
    f31_eq (by omega) (by omega), f31_eq (by omega) (by omega)]
  refine ⟨_, _, rfl, by omega, by omega, fun ht hs => ?_⟩
  obtain ⟨rfl, rfl⟩ := hcd ht
  subst hs
  omega
end Go.HL.Try
