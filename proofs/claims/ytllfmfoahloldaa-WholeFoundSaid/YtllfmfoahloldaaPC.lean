/- The plain law of the search: all turns and scales; what Find answers; no program in sight. -/
import Derived.Test.YtllfmfoahloldaaPB
import Derived.Test.YtllfmfoahloldaaFB
set_option linter.unusedVariables false
set_option linter.unusedSimpArgs false
namespace Go.HL.Try
open Go.HL Go.Sort
def ltP (x y : M5) : Prop := x.2.1 < y.2.1 ∨ (x.2.1 = y.2.1 ∧ x.1 < y.1)
theorem sortM_perm (X : List M5) : (sortM X).Perm X := by
  have h := (sortA_perm X.toArray).1.2.2
  have h2 := sortA_size X.toArray
  have e1 : (sortA X.toArray).extract 0 X.toArray.size = sortA X.toArray := by rw [← h2]; simp
  have e2 : X.toArray.extract 0 X.toArray.size = X.toArray := by simp
  rw [e1, e2] at h
  simpa [sortM] using h
theorem sortM_sorted (X : List M5) : (sortM X).Pairwise fun x y => ¬ ltP y x := by
  have h := (sortA_perm X.toArray).2
  have h2 := sortA_size X.toArray
  rw [List.pairwise_iff_getElem]
  intro i j hi hj hij
  have hj' : j < X.toArray.size := by unfold sortM at hj; rw [← h2]; simpa using hj
  have := h i j (Nat.zero_le _) hij hj'
  rw [ltM] at this
  have hja : j < (sortA X.toArray).size := by rw [h2]; exact hj'
  have hia : i < (sortA X.toArray).size := by omega
  rw [getElem!_pos _ j hja, getElem!_pos _ i hia] at this
  simpa [sortM, ltP] using this
theorem sortTail_app (ms M : List M5) (h : (ms ++ M).length ≤ 1000000) : sortTail (ms ++ M) ms.length = some (ms ++ sortM M) := by
  have e1 : (ms ++ M).take ms.length = ms := List.take_left ..
  have e2 : (ms ++ M).drop ms.length = M := List.drop_left ..
  unfold sortTail
  rw [e1, e2, if_pos]
  refine ⟨by omega, ?_⟩
  rw [List.length_append, List.length_append, sortM_length]
def sten (w h : Int) (t : List Int) (tu sc : Int) : List P3 := (f11_m w h t tu sc).getD []
theorem sten_some {w h : Int} {t : List Int} (q : Tem w h t) {tu sc : Int} (h1 : 0 ≤ tu ∧ tu ≤ 11) (h2 : 1 ≤ sc ∧ sc ≤ 4) : f11_m w h t tu sc = some (sten w h t tu sc) ∧ Sten (sten w h t tu sc) := by
  obtain ⟨s, e, hs, _⟩ := f11_some q h1 h2
  unfold sten; rw [e]; exact ⟨rfl, hs⟩
abbrev K4' := Int × Int × Int × Int
def keyM (m : M5) : K4' := (m.1, m.2.1, m.2.2.1, m.2.2.2.1)
def keysA (a : A6) : List K4' := (posesA a).map fun q => (q.1, q.2, a.2.2.2.2.1, a.2.2.2.2.2)
def keysJ (W H : Int) (j : Nat) : List K4' := (poses 0 0 (W - 1) (H - 1)).map fun q => (q.1, q.2, ((j / 4 : Nat) : Int), ((j % 4 : Nat) : Int) + 1)
def allKeys (W H : Int) (n : Nat) : List K4' := (List.range n).flatMap (keysJ W H)
/-- A match and a box of the statement's search. -/
structure MOk (W H : Int) (pix : List Int) (w h : Int) (t : List Int) (L : Int) (m : M5) : Prop where
  box : BoxOk W H m.1 m.2.1 m.1 m.2.1
  ta : 0 ≤ m.2.2.1 ∧ m.2.2.1 ≤ 11
  c : 1 ≤ m.2.2.2.1 ∧ m.2.2.2.1 ≤ 4
  d : m.2.2.2.2 = bd (sten w h t m.2.2.1 m.2.2.2.1) pix W H m.1 m.2.1 m.1 m.2.1
  l : m.2.2.2.2 ≤ L
structure AOk (W H : Int) (pix : List Int) (w h : Int) (t : List Int) (L : Int) (a : A6) : Prop where
  box : BoxOk W H a.1 a.2.1 a.2.2.1 a.2.2.2.1
  ta : 0 ≤ a.2.2.2.2.1 ∧ a.2.2.2.2.1 ≤ 11
  c : 1 ≤ a.2.2.2.2.2 ∧ a.2.2.2.2.2 ≤ 4
  d : L < bd (sten w h t a.2.2.2.2.1 a.2.2.2.2.2) pix W H a.1 a.2.1 a.2.2.1 a.2.2.2.1
def is02 (m : M5) : Bool := decide (m.2.2.1 = 0) && decide (m.2.2.2.1 = 2)
structure Found (W H : Int) (pix : List Int) (w h : Int) (t : List Int) (L : Int) (j : Nat) (MS : List M5) (AS : List A6) : Prop where
  m : ∀ m ∈ MS, MOk W H pix w h t L m
  a : ∀ a ∈ AS, AOk W H pix w h t L a
  cov : (MS.map keyM ++ AS.flatMap keysA).Perm (allKeys W H j)
  lm : MS.length ≤ 64 * j
  la : AS.length ≤ 64 * j
  f0 : j ≤ 1 → MS.filter is02 = []
  f1 : 2 ≤ j → ∃ M A, Good (sten w h t 0 2) pix W H L 0 2 0 0 (W - 1) (H - 1) M A ∧ MS.filter is02 = sortM M
theorem perm5 {α : Type} (a b c d e f : List α) (h1 : (a ++ b).Perm e) (h2 : (c ++ d).Perm f) : (a ++ c ++ (b ++ d)).Perm (e ++ f) := (perm4 a c b d).trans (h1.append h2)
theorem found_step {W H : Int} {pix : List Int} (p : Pic W H pix) {w h : Int} {t : List Int} (q : Tem w h t) {L : Int} {j : Nat} (hj : j < 48) {MS : List M5} {AS : List A6} (F : Found W H pix w h t L j MS AS) :
    ∃ MS' AS', f5_s0 W H pix w h t L (AS, MS) (theBox W H j) = some (AS', MS') ∧ Found W H pix w h t L (j + 1) MS' AS' := by
  have := p.w0; have := p.w1; have := p.h0; have := p.h1
  have h1 : 0 ≤ ((j / 4 : Nat) : Int) ∧ ((j / 4 : Nat) : Int) ≤ 11 := by omega
  have h2 : 1 ≤ ((j % 4 : Nat) : Int) + 1 ∧ ((j % 4 : Nat) : Int) + 1 ≤ 4 := by omega
  generalize hT : ((j / 4 : Nat) : Int) = T at *
  generalize hC : ((j % 4 : Nat) : Int) + 1 = C at *
  obtain ⟨e1, hs⟩ := sten_some q h1 h2
  have hb : BoxOk W H 0 0 (W - 1) (H - 1) := ⟨by omega, by omega, by omega, by omega, by omega, by omega⟩
  have hpl : (poses 0 0 (W - 1) (H - 1)).length ≤ 64 := by
    rw [poses_len]
    have : (H - 1 + 1 - 0).toNat * (W - 1 + 1 - 0).toNat ≤ 8 * 8 := Nat.mul_le_mul (by omega) (by omega)
    omega
  have hlm := F.lm; have hla := F.la
  obtain ⟨M, A, e2, g⟩ := f12_some p hs (L := L) (t := T) (c := C) 20 FUEL 0 0 (W - 1) (H - 1) MS AS (by omega) (by rw [FUEL_eq]; omega) hb (by omega) (by omega)
  have hgl := g.len
  refine ⟨MS ++ sortM M, AS ++ A, ?_, ?_⟩
  · unfold f5_s0 theBox
    simp only [hT, hC]
    rw [e1, w64s (x := W - 1) (by omega) (by omega), w64s (x := H - 1) (by omega) (by omega)]
    simp only [Option.bind_some]
    rw [e2]
    simp only [Option.bind_some]
    rw [if_pos (by rw [List.length_append]; omega), show ((MS.length : Int)).toNat = MS.length from rfl, sortTail_app _ _ (by rw [List.length_append]; omega)]
    rfl
  · have hM : ∀ m ∈ sortM M, m ∈ M := fun m hm => (sortM_perm M).mem_iff.1 hm
    refine ⟨fun m hm => ?_, fun a ha => ?_, ?_, ?_, ?_, fun hj1 => ?_, fun hj2 => ?_⟩
    · rcases List.mem_append.1 hm with hm | hm
      · exact F.m m hm
      · obtain ⟨k1, k2, k3, k4, k5, k6⟩ := g.m m (hM m hm)
        exact ⟨⟨by omega, by omega, by omega, by omega, by omega, by omega⟩, by rw [k3]; exact h1, by rw [k4]; exact h2, by rw [k3, k4]; exact k5, k6⟩
    · rcases List.mem_append.1 ha with ha | ha
      · exact F.a a ha
      · obtain ⟨k1, k2, k3, k4, k5⟩ := g.a a ha
        exact ⟨⟨by omega, by omega, by omega, by omega, by omega, by omega⟩, by rw [k3]; exact h1, by rw [k4]; exact h2, by rw [k3, k4]; exact k5⟩
    · have e3 : allKeys W H (j + 1) = allKeys W H j ++ keysJ W H j := by
        unfold allKeys
        rw [List.range_succ, List.flatMap_append]; simp
      have e4 : M.map keyM = (M.map poseM).map fun q => (q.1, q.2, T, C) := by
        rw [List.map_map]
        apply List.map_congr_left
        intro m hm
        obtain ⟨k1, k2, k3, k4, k5, k6⟩ := g.m m hm
        simp [keyM, poseM, k3, k4]
      have e5 : A.flatMap keysA = (A.flatMap posesA).map fun q => (q.1, q.2, T, C) := by
        have key : ∀ l : List A6, (∀ a ∈ l, a ∈ A) → l.flatMap keysA = (l.flatMap posesA).map fun q => (q.1, q.2, T, C) := by
          intro l
          induction l with
          | nil => intro _; rfl
          | cons a l ih =>
            intro hl
            obtain ⟨k1, k2, k3, k4, k5⟩ := g.a a (hl a (List.mem_cons_self ..))
            rw [List.flatMap_cons, List.flatMap_cons, List.map_append, ih fun b hb => hl b (List.mem_cons_of_mem _ hb)]
            simp [keysA, k3, k4]
        exact key A fun _ h => h
      have e6 : (M.map keyM ++ A.flatMap keysA).Perm (keysJ W H j) := by
        rw [e4, e5, ← List.map_append]
        unfold keysJ
        rw [hT, hC]
        exact g.cov.map _
      rw [e3, List.map_append, List.flatMap_append]
      refine perm5 _ _ _ _ _ _ F.cov ?_
      exact (List.Perm.append_right _ ((sortM_perm M).map _)).trans e6
    · rw [List.length_append, sortM_length]; omega
    · rw [List.length_append]; omega
    · rw [List.filter_append, F.f0 (by omega)]
      have : ∀ m ∈ sortM M, ¬ is02 m = true := fun m hm => by
        obtain ⟨k1, k2, k3, k4, k5, k6⟩ := g.m m (hM m hm)
        simp [is02, k3, k4]; omega
      rw [List.nil_append]
      exact List.filter_eq_nil_iff.2 this
    · rw [List.filter_append]
      by_cases h3 : j = 1
      · subst h3
        have hT0 : T = 0 := by omega
        have hC2 : C = 2 := by omega
        subst hT0 hC2
        refine ⟨M, A, g, ?_⟩
        rw [F.f0 (by omega), List.nil_append]
        refine List.filter_eq_self.2 fun m hm => ?_
        obtain ⟨k1, k2, k3, k4, k5, k6⟩ := g.m m (hM m hm)
        simp [is02, k3, k4]
      · obtain ⟨M1, A1, g1, hf⟩ := F.f1 (by omega)
        refine ⟨M1, A1, g1, ?_⟩
        have : ∀ m ∈ sortM M, ¬ is02 m = true := fun m hm => by
          obtain ⟨k1, k2, k3, k4, k5, k6⟩ := g.m m (hM m hm)
          simp [is02, k3, k4]; omega
        rw [hf, List.filter_eq_nil_iff.2 this, List.append_nil]
theorem found_all {W H : Int} {pix : List Int} (p : Pic W H pix) {w h : Int} {t : List Int} (q : Tem w h t) {L : Int} : ∀ (k j : Nat) (MS : List M5) (AS : List A6), j + k = 48 → Found W H pix w h t L j MS AS →
    ∃ MS' AS', itFrom (S := (List A6) × (List M5)) (fun j s => f5_s0 W H pix w h t L s (theBox W H j)) j k (AS, MS) = some (AS', MS') ∧ Found W H pix w h t L 48 MS' AS' := by
  intro k
  induction k with
  | zero =>
    intro j MS AS hj F
    have : j = 48 := by omega
    subst this
    exact ⟨MS, AS, rfl, F⟩
  | succ k ih =>
    intro j MS AS hj F
    obtain ⟨MS1, AS1, e1, F1⟩ := found_step p q (by omega) F
    obtain ⟨MS2, AS2, e2, F2⟩ := ih (j + 1) MS1 AS1 (by omega) F1
    refine ⟨MS2, AS2, ?_, F2⟩
    unfold itFrom
    rw [e1, Option.bind_some, e2]
theorem f5_some {W H : Int} {pix : List Int} (p : Pic W H pix) {w h : Int} {t : List Int} (q : Tem w h t) {L : Int} (hL : 0 ≤ L ∧ L ≤ 1000) :
    ∃ MS AS, f5_m W H pix w h t L = some (MS, AS, 0) ∧ Found W H pix w h t L 48 MS AS := by
  obtain ⟨MS, AS, e, F⟩ := found_all p q (L := L) 48 0 [] [] rfl ⟨(fun m h => by cases h), (fun a h => by cases h), List.Perm.refl _, Nat.zero_le _, Nat.zero_le _, fun _ => rfl, fun h => by omega⟩
  refine ⟨MS, AS, ?_, F⟩
  unfold f5_m
  rw [f8_zero p q]
  simp only [Option.bind_some]
  rw [if_neg (by simp), f9_true (allIn1 ⟨by omega, by omega⟩) (by simp)]
  simp only [Option.bind_some]
  rw [if_neg (by decide), e]
  rfl
end Go.HL.Try
