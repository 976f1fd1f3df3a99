/- A clone of numbers, off a slice of one's own, a part of it, and one that stays. -/
import Derived.Test.YtllfmfoahloldaaGreatZR
import Derived.Test.YtllfmfoahloldaaGreatHL23
set_option linter.unusedVariables false
set_option linter.unusedSimpArgs false
set_option maxRecDepth 100000
namespace Go.HL.Tz
open Go.HL Go.RowKit
attribute [local irreducible] OW CW CV
theorem f44_own {xs : List Int} {oa : Option Addr} {c k : Nat} {I : Im} {L : List HP} {w : World} (hs : Sat I L w) (hk : L[k]? = some (osl 3 1 oa xs.length c (xs.flatMap e64))) (hlen : xs.length ≤ 1099511627776) :
    CV P 44 [.slice oa xs.length c] w fun v w' => ∃ oa' c', Sat I (osl 3 1 oa' xs.length c' (xs.flatMap e64) :: L) w' ∧ v = .slice oa' xs.length c' := by
  refine f44_ok hs hlen ?_ ?_
  · intro h
    rcases Nat.eq_zero_or_pos xs.length with h0 | h0
    · exact List.length_eq_zero_iff.1 h0
    · have := osl_some hs hk h0
      rw [h] at this; cases this
  · rintro a rfl j v hv
    have := osl_CA hs hk 0 (xs.flatMap e64).length j v (by rw [List.drop_zero, List.take_length]; exact hv)
    simpa [ea, Addr.add] using this
theorem f44_sub {X : List Int} {m c k : Nat} {oa : Option Addr} {lo q : Int} {I : Im} {L : List HP} {w : World} (hs : Sat I L w) (hk : L[k]? = some (osl 3 1 oa m c (X.flatMap e64))) (h0 : 0 ≤ lo) (h1 : 0 ≤ q) (h2 : lo + q ≤ (X.length : Int)) (hlen : q ≤ 1099511627776) :
    CV P 44 [.slice (so oa c lo.toNat 1) q.toNat (c - lo.toNat)] w fun v w' => ∃ oa' c', Sat I (osl 3 1 oa' ((X.drop lo.toNat).take q.toNat).length c' (((X.drop lo.toNat).take q.toNat).flatMap e64) :: L) w' ∧ v = .slice oa' ((X.drop lo.toNat).take q.toNat).length c' := by
  have hl : ((X.drop lo.toNat).take q.toNat).length = q.toNat := by rw [List.length_take, List.length_drop]; omega
  have hm := osl_n hs hk (fun _ => rfl) (by decide)
  have hc := osl_le hs hk
  have hfl : ∀ Y : List Int, (Y.flatMap e64) = Y.map (Value.int .i64) := fun Y => by induction Y <;> simp_all [e64]
  have h := f44_ok (xs := (X.drop lo.toNat).take q.toNat) (oa := so oa c lo.toNat 1) (c := c - lo.toNat) hs (by rw [hl]; omega) ?_ ?_
  · rw [hl] at h; rw [hl]; exact h
  · intro h
    rcases Nat.eq_zero_or_pos q.toNat with h3 | h3
    · rw [h3, List.take_zero]
    · have := osl_some hs hk (by omega)
      cases oa with
      | none => cases this
      | some a => unfold so at h; split at h <;> simp at h
  · rintro a ha j v hv
    cases oa with
    | none =>
      rw [show so none c lo.toNat 1 = none by unfold so; split <;> rfl] at ha; cases ha
    | some b =>
      rw [hfl, List.getElem?_map] at hv
      cases hj : ((X.drop lo.toNat).take q.toNat)[j]? with
      | none => rw [hj] at hv; cases hv
      | some y =>
        rw [hj] at hv
        have hjl := (List.getElem?_eq_some_iff.1 hj).1
        rw [hl] at hjl
        have hne : c ≠ lo.toNat := by omega
        have ea' : a = b.add (lo.toNat * 1) := by unfold so at ha; rw [if_neg hne] at ha; simpa using ha.symm
        subst ea'
        rw [List.getElem?_take, if_pos hjl, List.getElem?_drop] at hj
        have := osl_CA hs hk 0 (X.flatMap e64).length (lo.toNat + j) v (by rw [List.drop_zero, List.take_length, hfl, List.getElem?_map, hj]; exact hv)
        rw [ea_add, Nat.zero_add] at this
        rw [Nat.mul_one]
        show w.cell? ((ea (some b) lo.toNat).add j) = some v
        rw [ea_add]
        exact this
end Go.HL.Tz
