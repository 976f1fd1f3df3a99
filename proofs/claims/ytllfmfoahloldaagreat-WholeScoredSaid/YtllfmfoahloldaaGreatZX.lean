/- The walk of the law WholeScored, from any world: it returns true and changes nothing that was there. -/
import Derived.Test.YtllfmfoahloldaaGreatQI
import Derived.Test.YtllfmfoahloldaaGreatHL15
set_option linter.unusedVariables false
namespace Go.HL.Tz
open Go.HL Go.RowKit
theorem wf_i8 {a : Int} (h : (Lit.int .i8 a).wf = true) : -128 ≤ a ∧ a ≤ 127 := by
  have h1 : IntKind.min .i8 = -128 := by decide
  have h2 : IntKind.max .i8 = 127 := by decide
  simp only [Lit.wf, Bool.and_eq_true, decide_eq_true_eq, h1, h2] at h
  exact h
theorem wf_i32 {a : Int} (h : (Lit.int .i32 a).wf = true) : -2147483648 ≤ a ∧ a ≤ 2147483647 := by
  have h1 : IntKind.min .i32 = -2147483648 := by decide
  have h2 : IntKind.max .i32 = 2147483647 := by decide
  simp only [Lit.wf, Bool.and_eq_true, decide_eq_true_eq, h1, h2] at h
  exact h
theorem scored_walk {W : World} {a2 a5 a6 : Option Addr} {cap2 cap5 cap6 : Nat} {l2 l5 l6 : List Int} {a0 a1 a3 a4 a7 a8 a9 : Int} (w0 : (Lit.int .u8 a0).wf = true) (w1 : (Lit.int .u8 a1).wf = true) (rs2 : Rs (imOf W) 1 a2 l2.length cap2 (l2.map fun x => Value.int .u8 x))
    (w2 : ∀ n ∈ l2, (Lit.int .u8 n).wf = true) (w3 : (Lit.int .i8 a3).wf = true) (w4 : (Lit.int .u8 a4).wf = true) (rs5 : Rs (imOf W) 1 a5 l5.length cap5 (l5.map fun x => Value.int .i8 x))
    (w5 : ∀ n ∈ l5, (Lit.int .i8 n).wf = true) (rs6 : Rs (imOf W) 1 a6 l6.length cap6 (l6.map fun x => Value.int .i8 x))
    (w6 : ∀ n ∈ l6, (Lit.int .i8 n).wf = true) (w7 : (Lit.int .i32 a7).wf = true) (w8 : (Lit.int .u16 a8).wf = true) (w9 : (Lit.int .u8 a9).wf = true) :
    Calls P 4 #[.int .u8 a0, .int .u8 a1, .slice a2 l2.length cap2, .int .i8 a3, .int .u8 a4, .slice a5 l5.length cap5, .slice a6 l6.length cap6, .int .i32 a7, .int .u16 a8, .int .u8 a9] W fun e w' => e = .returned (.bool true) ∧ Below W.heap.size W w' := by
  have hm := f4_true (x2 := l2) (x5 := l5) (x6 := l6) (wf_u8 w0) (wf_u8 w1) (fun x hx => wf_u8 (w2 x hx)) (wf_i8 w3) (wf_u8 w4) (fun x hx => wf_i8 (w5 x hx)) (fun x hx => wf_i8 (w6 x hx)) (wf_i32 w7) (wf_u16 w8) (wf_u8 w9)
  have e2 : l2.flatMap e8 = l2.map fun x => Value.int .u8 x := flat_map1 _ _
  have e5 : l5.flatMap enc28 = l5.map fun x => Value.int .i8 x := flat_map1 _ _
  have e6 : l6.flatMap enc28 = l6.map fun x => Value.int .i8 x := flat_map1 _ _
  exact calls_below (f4_ok _ _ _ _ _ _ _ _ _ _ hm (sat_imOf W) (by rw [e2]; exact rs2) (by rw [e5]; exact rs5) (by rw [e6]; exact rs6))
end Go.HL.Tz
