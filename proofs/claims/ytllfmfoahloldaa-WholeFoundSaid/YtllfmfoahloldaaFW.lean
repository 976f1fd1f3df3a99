/- The walk of the law WholeFound, from any world: it returns true and changes nothing that was there. -/
import Derived.Test.YtllfmfoahloldaaPE
import Derived.Test.YtllfmfoahloldaaHL15
set_option linter.unusedVariables false
namespace Go.HL.Try
open Go.HL Go.RowKit
theorem found_walk {W : World} {a2 : Option Addr} {cap2 : Nat} {l2 : List Int} {a0 a1 a3 a4 a5 a6 a7 : Int} (w0 : (Lit.int .u8 a0).wf = true) (w1 : (Lit.int .u8 a1).wf = true) (rs2 : Rs (imOf W) 1 a2 l2.length cap2 (l2.map fun x => Value.int .u8 x))
    (w2 : ∀ n ∈ l2, (Lit.int .u8 n).wf = true) (w3 : (Lit.int .u8 a3).wf = true) (w4 : (Lit.int .u8 a4).wf = true) (w5 : (Lit.int .u8 a5).wf = true) (w6 : (Lit.int .u8 a6).wf = true) (w7 : (Lit.int .u16 a7).wf = true) :
    Calls P 3 #[.int .u8 a0, .int .u8 a1, .slice a2 l2.length cap2, .int .u8 a3, .int .u8 a4, .int .u8 a5, .int .u8 a6, .int .u16 a7] W fun e w' => e = .returned (.bool true) ∧ Below W.heap.size W w' := by
  have hm := f3_true (x2 := l2) (wf_u8 w0) (wf_u8 w1) (fun x hx => wf_u8 (w2 x hx)) (wf_u8 w3) (wf_u8 w4) (wf_u8 w5) (wf_u8 w6) (wf_u16 w7)
  have e : l2.flatMap e8 = l2.map fun x => Value.int .u8 x := flat_map1 _ _
  exact calls_below (f3_ok _ _ _ _ _ _ _ _ hm (sat_imOf W) (by rw [e]; exact rs2))
end Go.HL.Try
