/- The walks of some functions, printed by a program of ours (gox). -/
import Derived.Test.YtllfmfoahloldaaFC
set_option linter.unusedVariables false
set_option linter.unusedSimpArgs false
set_option maxRecDepth 100000
set_option maxHeartbeats 400000
namespace Go.HL.Try
open Go.HL
attribute [local irreducible] OW CW CV
theorem en4 : Go.Proofs.Enters P 4 := Go.Proofs.enters_of Go.Proofs.Try.func4 (by kernel_rfl) rfl
theorem st28 : StrT P 28 [(0, 1), (1, 1), (2, 1)] := ⟨by kernel_rfl⟩
theorem it23 : IntT P 23 .u16 := (by kernel_rfl : P.underlying 23 = some (.int .u16))
theorem en5 : Go.Proofs.Enters P 5 := Go.Proofs.enters_of Go.Proofs.Try.func5 (by kernel_rfl) rfl
theorem en6 : Go.Proofs.Enters P 6 := Go.Proofs.enters_of Go.Proofs.Try.func6 (by kernel_rfl) rfl
theorem en7 : Go.Proofs.Enters P 7 := Go.Proofs.enters_of Go.Proofs.Try.func7 (by kernel_rfl) rfl

-- f3 sightbench/sightbenchtop.WholeFound
def f3_l0 (x3 : Int) (x4 : Int) (x5 : Int) (x6 : Int) (r1 : Int × Int × List Int) : Nat → Int → (List Int) → Option (List Int)
  | 0, _, _ => none
  | k + 1, v0_t_21, v0_o_nb_r11_2 => (if v0_t_21 < (w64 ((min (w64 (1 + (w64 (Int.tmod x5 3)))) r1.1) * (min (w64 (1 + (w64 (Int.tmod x6 3)))) r1.2.1))) then (if (min (w64 (1 + (w64 (Int.tmod x5 3)))) r1.1) ≠ 0 then (if (min (w64 (1 + (w64 (Int.tmod x5 3)))) r1.1) ≠ 0 then (if 0 ≤ (w64 ((w64 ((w64 ((w64 ((Int.tmod (w64 (x4)) (w64 ((w64 (r1.2.1 - (min (w64 (1 + (w64 (Int.tmod x6 3)))) r1.2.1))) + 1))) + (w64 (Int.tdiv v0_t_21 (min (w64 (1 + (w64 (Int.tmod x5 3)))) r1.1))))) * r1.1)) + (Int.tmod (w64 (x3)) (w64 ((w64 (r1.1 - (min (w64 (1 + (w64 (Int.tmod x5 3)))) r1.1))) + 1))))) + (Int.tmod v0_t_21 (min (w64 (1 + (w64 (Int.tmod x5 3)))) r1.1)))) ∧ (w64 ((w64 ((w64 ((w64 ((Int.tmod (w64 (x4)) (w64 ((w64 (r1.2.1 - (min (w64 (1 + (w64 (Int.tmod x6 3)))) r1.2.1))) + 1))) + (w64 (Int.tdiv v0_t_21 (min (w64 (1 + (w64 (Int.tmod x5 3)))) r1.1))))) * r1.1)) + (Int.tmod (w64 (x3)) (w64 ((w64 (r1.1 - (min (w64 (1 + (w64 (Int.tmod x5 3)))) r1.1))) + 1))))) + (Int.tmod v0_t_21 (min (w64 (1 + (w64 (Int.tmod x5 3)))) r1.1)))) < (r1.2.2.length : Int) then (if v0_o_nb_r11_2.length + [(at' r1.2.2 (w64 ((w64 ((w64 ((w64 ((Int.tmod (w64 (x4)) (w64 ((w64 (r1.2.1 - (min (w64 (1 + (w64 (Int.tmod x6 3)))) r1.2.1))) + 1))) + (w64 (Int.tdiv v0_t_21 (min (w64 (1 + (w64 (Int.tmod x5 3)))) r1.1))))) * r1.1)) + (Int.tmod (w64 (x3)) (w64 ((w64 (r1.1 - (min (w64 (1 + (w64 (Int.tmod x5 3)))) r1.1))) + 1))))) + (Int.tmod v0_t_21 (min (w64 (1 + (w64 (Int.tmod x5 3)))) r1.1)))))].length ≤ 1099511627776 then (f3_l0 x3 x4 x5 x6 r1 k (w64 (v0_t_21 + 1)) (v0_o_nb_r11_2 ++ [(at' r1.2.2 (w64 ((w64 ((w64 ((w64 ((Int.tmod (w64 (x4)) (w64 ((w64 (r1.2.1 - (min (w64 (1 + (w64 (Int.tmod x6 3)))) r1.2.1))) + 1))) + (w64 (Int.tdiv v0_t_21 (min (w64 (1 + (w64 (Int.tmod x5 3)))) r1.1))))) * r1.1)) + (Int.tmod (w64 (x3)) (w64 ((w64 (r1.1 - (min (w64 (1 + (w64 (Int.tmod x5 3)))) r1.1))) + 1))))) + (Int.tmod v0_t_21 (min (w64 (1 + (w64 (Int.tmod x5 3)))) r1.1)))))])) else none) else none) else none) else none) else some v0_o_nb_r11_2)
def f3_l3 (x5 : Int) (x6 : Int) (r1 : Int × Int × List Int) (o108 : List Int) (v3_t_28 : Int) (v2_t_29 : Int) : Nat → Int → Int → Option Int
  | 0, _, _ => none
  | k + 1, v1_t_30, v1_t_31 => (if v1_t_31 < (w64 ((min (w64 (1 + (w64 (Int.tmod x5 3)))) r1.1) * (min (w64 (1 + (w64 (Int.tmod x6 3)))) r1.2.1))) then (if (min (w64 (1 + (w64 (Int.tmod x5 3)))) r1.1) ≠ 0 then (if (min (w64 (1 + (w64 (Int.tmod x5 3)))) r1.1) ≠ 0 then ((if (w64 ((w64 (v2_t_29 + (Int.tmod v1_t_31 (min (w64 (1 + (w64 (Int.tmod x5 3)))) r1.1)))) - (w64 (Int.tdiv (w64 ((min (w64 (1 + (w64 (Int.tmod x5 3)))) r1.1) - 1)) 2)))) < 0 then some true else some (decide (r1.1 ≤ (w64 ((w64 (v2_t_29 + (Int.tmod v1_t_31 (min (w64 (1 + (w64 (Int.tmod x5 3)))) r1.1)))) - (w64 (Int.tdiv (w64 ((min (w64 (1 + (w64 (Int.tmod x5 3)))) r1.1) - 1)) 2))))))).bind fun b20473 => ((if b20473 = true then some true else some (decide ((w64 ((w64 (v3_t_28 + (w64 (Int.tdiv v1_t_31 (min (w64 (1 + (w64 (Int.tmod x5 3)))) r1.1))))) - (w64 (Int.tdiv (w64 ((min (w64 (1 + (w64 (Int.tmod x6 3)))) r1.2.1) - 1)) 2)))) < 0))).bind fun b20477 => ((if b20477 = true then some true else some (decide (r1.2.1 ≤ (w64 ((w64 (v3_t_28 + (w64 (Int.tdiv v1_t_31 (min (w64 (1 + (w64 (Int.tmod x5 3)))) r1.1))))) - (w64 (Int.tdiv (w64 ((min (w64 (1 + (w64 (Int.tmod x6 3)))) r1.2.1) - 1)) 2))))))).bind fun b20481 => (if b20481 = true then (f3_l3 x5 x6 r1 o108 v3_t_28 v2_t_29 k (w64 (v1_t_30 + 255)) (w64 (v1_t_31 + 1))) else (if 0 ≤ (w64 ((w64 ((w64 ((w64 (v3_t_28 + (w64 (Int.tdiv v1_t_31 (min (w64 (1 + (w64 (Int.tmod x5 3)))) r1.1))))) - (w64 (Int.tdiv (w64 ((min (w64 (1 + (w64 (Int.tmod x6 3)))) r1.2.1) - 1)) 2)))) * r1.1)) + (w64 ((w64 (v2_t_29 + (Int.tmod v1_t_31 (min (w64 (1 + (w64 (Int.tmod x5 3)))) r1.1)))) - (w64 (Int.tdiv (w64 ((min (w64 (1 + (w64 (Int.tmod x5 3)))) r1.1) - 1)) 2)))))) ∧ (w64 ((w64 ((w64 ((w64 (v3_t_28 + (w64 (Int.tdiv v1_t_31 (min (w64 (1 + (w64 (Int.tmod x5 3)))) r1.1))))) - (w64 (Int.tdiv (w64 ((min (w64 (1 + (w64 (Int.tmod x6 3)))) r1.2.1) - 1)) 2)))) * r1.1)) + (w64 ((w64 (v2_t_29 + (Int.tmod v1_t_31 (min (w64 (1 + (w64 (Int.tmod x5 3)))) r1.1)))) - (w64 (Int.tdiv (w64 ((min (w64 (1 + (w64 (Int.tmod x5 3)))) r1.1) - 1)) 2)))))) < (r1.2.2.length : Int) then (if 0 ≤ v1_t_31 ∧ v1_t_31 < (o108.length : Int) then (f3_l3 x5 x6 r1 o108 v3_t_28 v2_t_29 k (w64 (v1_t_30 + (max (w64 ((at' r1.2.2 (w64 ((w64 ((w64 ((w64 (v3_t_28 + (w64 (Int.tdiv v1_t_31 (min (w64 (1 + (w64 (Int.tmod x5 3)))) r1.1))))) - (w64 (Int.tdiv (w64 ((min (w64 (1 + (w64 (Int.tmod x6 3)))) r1.2.1) - 1)) 2)))) * r1.1)) + (w64 ((w64 (v2_t_29 + (Int.tmod v1_t_31 (min (w64 (1 + (w64 (Int.tmod x5 3)))) r1.1)))) - (w64 (Int.tdiv (w64 ((min (w64 (1 + (w64 (Int.tmod x5 3)))) r1.1) - 1)) 2))))))) - (at' o108 v1_t_31))) (w64 (0 - (w64 ((at' r1.2.2 (w64 ((w64 ((w64 ((w64 (v3_t_28 + (w64 (Int.tdiv v1_t_31 (min (w64 (1 + (w64 (Int.tmod x5 3)))) r1.1))))) - (w64 (Int.tdiv (w64 ((min (w64 (1 + (w64 (Int.tmod x6 3)))) r1.2.1) - 1)) 2)))) * r1.1)) + (w64 ((w64 (v2_t_29 + (Int.tmod v1_t_31 (min (w64 (1 + (w64 (Int.tmod x5 3)))) r1.1)))) - (w64 (Int.tdiv (w64 ((min (w64 (1 + (w64 (Int.tmod x5 3)))) r1.1) - 1)) 2))))))) - (at' o108 v1_t_31)))))))) (w64 (v1_t_31 + 1))) else none) else none))))) else none) else none) else some v1_t_30)
def f3_l2 (x3 : Int) (x4 : Int) (x5 : Int) (x6 : Int) (x7 : Int) (r1 : Int × Int × List Int) (o108 : List Int) (v3_t_28 : Int) : Nat → Bool → Int → (List (Int × Int × Int × Int × Int)) → Option (Bool × (List (Int × Int × Int × Int × Int)))
  | 0, _, _, _ => none
  | k + 1, v2_t_27, v2_t_29, v2_o_nt_25 => (if v2_t_29 < r1.1 then (((f3_l3 x5 x6 r1 o108 v3_t_28 v2_t_29 FUEL 0 0).bind fun (o20419 : Int) => (if o20419 ≤ (w64 (Int.tmod x7 1001)) then (if v2_o_nt_25.length + [(v2_t_29, v3_t_28, 0, 2, o20419)].length ≤ 1099511627776 then ((if v2_t_27 = true then some true else (if o20419 = 0 then (if v2_t_29 = (w64 ((Int.tmod (w64 (x3)) (w64 ((w64 (r1.1 - (min (w64 (1 + (w64 (Int.tmod x5 3)))) r1.1))) + 1))) + (w64 (Int.tdiv (w64 ((min (w64 (1 + (w64 (Int.tmod x5 3)))) r1.1) - 1)) 2)))) then some (decide (v3_t_28 = (w64 ((Int.tmod (w64 (x4)) (w64 ((w64 (r1.2.1 - (min (w64 (1 + (w64 (Int.tmod x6 3)))) r1.2.1))) + 1))) + (w64 (Int.tdiv (w64 ((min (w64 (1 + (w64 (Int.tmod x6 3)))) r1.2.1) - 1)) 2)))))) else some false) else some false)).bind fun b20499 => some (b20499, v2_o_nt_25 ++ [(v2_t_29, v3_t_28, 0, 2, o20419)])) else none) else ((if v2_t_27 = true then some true else (if o20419 = 0 then (if v2_t_29 = (w64 ((Int.tmod (w64 (x3)) (w64 ((w64 (r1.1 - (min (w64 (1 + (w64 (Int.tmod x5 3)))) r1.1))) + 1))) + (w64 (Int.tdiv (w64 ((min (w64 (1 + (w64 (Int.tmod x5 3)))) r1.1) - 1)) 2)))) then some (decide (v3_t_28 = (w64 ((Int.tmod (w64 (x4)) (w64 ((w64 (r1.2.1 - (min (w64 (1 + (w64 (Int.tmod x6 3)))) r1.2.1))) + 1))) + (w64 (Int.tdiv (w64 ((min (w64 (1 + (w64 (Int.tmod x6 3)))) r1.2.1) - 1)) 2)))))) else some false) else some false)).bind fun b20505 => some (b20505, v2_o_nt_25)))).bind fun (o20350 : Bool × (List (Int × Int × Int × Int × Int))) => (f3_l2 x3 x4 x5 x6 x7 r1 o108 v3_t_28 k o20350.1 (w64 (v2_t_29 + 1)) o20350.2)) else some (v2_t_27, v2_o_nt_25))
def f3_l1 (x3 : Int) (x4 : Int) (x5 : Int) (x6 : Int) (x7 : Int) (r1 : Int × Int × List Int) (o108 : List Int) : Nat → Bool → Int → (List (Int × Int × Int × Int × Int)) → Option (Bool × (List (Int × Int × Int × Int × Int)))
  | 0, _, _, _ => none
  | k + 1, v3_t_27, v3_t_28, v3_o_nt_25 => (if v3_t_28 < r1.2.1 then ((f3_l2 x3 x4 x5 x6 x7 r1 o108 v3_t_28 FUEL v3_t_27 0 v3_o_nt_25).bind fun (o19554 : Bool × (List (Int × Int × Int × Int × Int))) => (f3_l1 x3 x4 x5 x6 x7 r1 o108 k o19554.1 (w64 (v3_t_28 + 1)) o19554.2)) else some (v3_t_27, v3_o_nt_25))
def f3_l4 (r156 : (List (Int × Int × Int × Int × Int)) × (List (Int × Int × Int × Int × Int × Int)) × Int) : Nat → Int → (List (Int × Int × Int × Int × Int)) → Option (List (Int × Int × Int × Int × Int))
  | 0, _, _ => none
  | k + 1, v4_t_35, v4_o_nt_26 => (if v4_t_35 < (r156.1.length : Int) then (if 0 ≤ v4_t_35 ∧ v4_t_35 < (r156.1.length : Int) then ((if ((at' r156.1 v4_t_35).2.2.1) = 0 then (if 0 ≤ v4_t_35 ∧ v4_t_35 < (r156.1.length : Int) then some (decide (((at' r156.1 v4_t_35).2.2.2.1) = 2)) else none) else some false).bind fun b20666 => (if b20666 = true then (if 0 ≤ v4_t_35 ∧ v4_t_35 < (r156.1.length : Int) then (if v4_o_nt_26.length + [((at' r156.1 v4_t_35).1, (at' r156.1 v4_t_35).2.1, (at' r156.1 v4_t_35).2.2.1, (at' r156.1 v4_t_35).2.2.2.1, (at' r156.1 v4_t_35).2.2.2.2)].length ≤ 1099511627776 then (f3_l4 r156 k (w64 (v4_t_35 + 1)) (v4_o_nt_26 ++ [((at' r156.1 v4_t_35).1, (at' r156.1 v4_t_35).2.1, (at' r156.1 v4_t_35).2.2.1, (at' r156.1 v4_t_35).2.2.2.1, (at' r156.1 v4_t_35).2.2.2.2)])) else none) else none) else (f3_l4 r156 k (w64 (v4_t_35 + 1)) v4_o_nt_26))) else none) else some v4_o_nt_26)
def f3_m (x0 : Int) (x1 : Int) (x2 : List Int) (x3 : Int) (x4 : Int) (x5 : Int) (x6 : Int) (x7 : Int) : Option Bool :=
  ((f4_m (w64 (1 + (w64 (Int.tmod x0 8)))) (w64 (1 + (w64 (Int.tmod x1 8)))) x2).bind fun r1 => (if (w64 ((w64 (r1.1 - (min (w64 (1 + (w64 (Int.tmod x5 3)))) r1.1))) + 1)) ≠ 0 then (if (w64 ((w64 (r1.2.1 - (min (w64 (1 + (w64 (Int.tmod x6 3)))) r1.2.1))) + 1)) ≠ 0 then ((f3_l0 x3 x4 x5 x6 r1 FUEL 0 ([] : List Int)).bind fun (o108 : List Int) => ((f5_m r1.1 r1.2.1 r1.2.2 (min (w64 (1 + (w64 (Int.tmod x5 3)))) r1.1) (min (w64 (1 + (w64 (Int.tmod x6 3)))) r1.2.1) o108 (w64 (Int.tmod x7 1001))).bind fun r156 => ((if ¬ (r156.2.2 = 0) then some true else ((f6_m r1.1 r1.2.1 r1.2.2 (min (w64 (1 + (w64 (Int.tmod x5 3)))) r1.1) (min (w64 (1 + (w64 (Int.tmod x6 3)))) r1.2.1) o108 (w64 (Int.tmod x7 1001)) r156.1 r156.2.1).bind fun r172 => some (decide (¬ (r172 = 0))))).bind fun b168 => (if b168 = true then some false else ((f3_l1 x3 x4 x5 x6 x7 r1 o108 FUEL false 0 ([] : List (Int × Int × Int × Int × Int))).bind fun (o14815 : Bool × (List (Int × Int × Int × Int × Int))) => ((f3_l4 r156 FUEL 0 ([] : List (Int × Int × Int × Int × Int))).bind fun (o20627 : List (Int × Int × Int × Int × Int)) => ((if o14815.1 = true then ((f7_m o20627 o14815.2).bind fun r20691 => some r20691) else some false).bind fun b20687 => some b20687))))))) else none) else none))
theorem f3_ok (x0 : Int) (x1 : Int) (x2 : List Int) (x3 : Int) (x4 : Int) (x5 : Int) (x6 : Int) (x7 : Int) {r : Bool} (hm : f3_m x0 x1 x2 x3 x4 x5 x6 x7 = some r) {ax2 : Option Addr} {cx2 : Nat} {I : Im} {F : List HP} {w : World} (hs : Sat I (F) w) (hx2 : Rs I 1 ax2 x2.length cx2 (x2.flatMap e8)) :
    CV P 3 [.int .u8 x0, .int .u8 x1, .slice ax2 x2.length cx2, .int .u8 x3, .int .u8 x4, .int .u8 x5, .int .u8 x6, .int .u16 x7] w fun v w' => ∃ (J : Im), Im.le I J ∧ Sat J (F) w' ∧ v = .bool r := by
  unfold f3_m at hm
  refine cv_of (n := 293) Go.Proofs.Try.func3 rfl rfl (Nat.le_of_ble_eq_true rfl) ?_
  refine cw_seq ?_
  refine cw_region ?_
  refine ow_v (x_assign (v := .bool false) rfl) rfl ?_
  refine ow_nil ?_
  refine seqK_n ?_
  refine cw_seq ?_
  refine cw_region ?_
  refine ow_v (x_move (v := .int .u8 x0) rfl) rfl ?_
  refine ow_v (x_rem (k := .u8) (a := x0) (b := 8) rfl rfl (by decide)) rfl ?_
  refine ow_v (x_conv (a := (Int.tmod x0 8)) it5 it3 rfl) rfl ?_
  refine ow_v (x_add (k := .i64) (a := 1) (b := (w64 (Int.tmod x0 8))) rfl rfl) rfl ?_
  refine ow_v (x_move (v := .int .u8 x1) rfl) rfl ?_
  refine ow_v (x_rem (k := .u8) (a := x1) (b := 8) rfl rfl (by decide)) rfl ?_
  refine ow_v (x_conv (a := (Int.tmod x1 8)) it5 it3 rfl) rfl ?_
  refine ow_v (x_add (k := .i64) (a := 1) (b := (w64 (Int.tmod x1 8))) rfl rfl) rfl ?_
  refine ow_v (x_move (v := .slice ax2 x2.length cx2) rfl) rfl ?_
  obtain ⟨r1, hr2, hm2⟩ := bind_some hm
  replace hm := hm2; clear hm2
  refine ow_call (fi := []) (vs := [.int .i64 (w64 (1 + (w64 (Int.tmod x0 8)))), .int .i64 (w64 (1 + (w64 (Int.tmod x1 8)))), .slice ax2 x2.length cx2]) (ca := []) rfl ⟨rfl, rfl, rfl, trivial⟩ en4 (f4_ok _ _ _ hr2 hs hx2) ?_
  clear hs; rintro _ w ⟨J3, a5, c6, hle4, hs, rfl, hR7⟩
  replace hx2 := hx2.mono hle4
  refine ow_alloc hs ty26 rfl ?_
  clear hs; intro b8 w hs
  refine ow_store (k := 0) (vs := [.int .i64 r1.1, .int .i64 r1.2.1, .slice a5 r1.2.2.length c6]) (cs' := [.int .i64 r1.1, .int .i64 r1.2.1, .slice a5 r1.2.2.length c6]) hs rfl rfl rfl ty26 rfl rfl (Nat.le_of_ble_eq_true rfl) rfl rfl ?_
  clear hs; intro w hs
  refine ow_nil ?_
  refine seqK_n ?_
  refine cw_seq ?_
  refine cw_region ?_
  refine ow_v (x_move (v := .int .u8 x5) rfl) rfl ?_
  refine ow_v (x_rem (k := .u8) (a := x5) (b := 3) rfl rfl (by decide)) rfl ?_
  refine ow_v (x_conv (a := (Int.tmod x5 3)) it5 it3 rfl) rfl ?_
  refine ow_v (x_add (k := .i64) (a := 1) (b := (w64 (Int.tmod x5 3))) rfl rfl) rfl ?_
  refine ow_field (b := b8) (o := 0) fl26_0 rfl ?_
  refine ow_load (k := 0) (vs := [.int .i64 r1.1]) (v := .int .i64 r1.1) hs rfl rfl ty3 rfl rfl rfl ?_
  refine ow_v (x_min2 (k := .i64) (a := (w64 (1 + (w64 (Int.tmod x5 3))))) (b := r1.1) rfl rfl) rfl ?_
  refine ow_v (x_move (v := .int .u8 x6) rfl) rfl ?_
  refine ow_v (x_rem (k := .u8) (a := x6) (b := 3) rfl rfl (by decide)) rfl ?_
  refine ow_v (x_conv (a := (Int.tmod x6 3)) it5 it3 rfl) rfl ?_
  refine ow_v (x_add (k := .i64) (a := 1) (b := (w64 (Int.tmod x6 3))) rfl rfl) rfl ?_
  refine ow_field (b := b8) (o := 0) fl26_1 rfl ?_
  refine ow_load (k := 0) (vs := [.int .i64 r1.2.1]) (v := .int .i64 r1.2.1) hs rfl rfl ty3 rfl rfl rfl ?_
  refine ow_v (x_min2 (k := .i64) (a := (w64 (1 + (w64 (Int.tmod x6 3))))) (b := r1.2.1) rfl rfl) rfl ?_
  refine ow_build (vp := [(0, .int .i64 (min (w64 (1 + (w64 (Int.tmod x5 3)))) r1.1)), (1, .int .i64 (min (w64 (1 + (w64 (Int.tmod x6 3)))) r1.2.1))]) (cs := [.int .i64 (min (w64 (1 + (w64 (Int.tmod x5 3)))) r1.1), .int .i64 (min (w64 (1 + (w64 (Int.tmod x6 3)))) r1.2.1), .slice none 0 0]) st28 ty28 ⟨rfl, rfl, rfl, rfl, trivial⟩ rfl ?_
  refine ow_alloc hs ty28 rfl ?_
  clear hs; intro b10 w hs
  refine ow_store (k := 0) (vs := [.int .i64 (min (w64 (1 + (w64 (Int.tmod x5 3)))) r1.1), .int .i64 (min (w64 (1 + (w64 (Int.tmod x6 3)))) r1.2.1), .slice none 0 0]) (cs' := [.int .i64 (min (w64 (1 + (w64 (Int.tmod x5 3)))) r1.1), .int .i64 (min (w64 (1 + (w64 (Int.tmod x6 3)))) r1.2.1), .slice none 0 0]) hs rfl rfl rfl ty28 rfl rfl (Nat.le_of_ble_eq_true rfl) rfl rfl ?_
  clear hs; intro w hs
  refine ow_nil ?_
  refine seqK_n ?_
  refine cw_seq ?_
  have hg12 := (ite_some hm).1
  replace hm := (ite_some hm).2
  have hg13 := (ite_some hm).1
  replace hm := (ite_some hm).2
  refine cw_drawF mixed rfl (fun f0 L f w => ∃ (Iq : Im), Im.le J3 Iq ∧ f = frL [(61, 0, .int .u8 x3), (62, 1, .int .i64 (w64 (x3))), (63, 2, .pointer (some ⟨b8, 0, none⟩)), (64, 3, .int .i64 r1.1), (65, 4, .pointer (some ⟨b10, 0, none⟩)), (66, 5, .int .i64 (min (w64 (1 + (w64 (Int.tmod x5 3)))) r1.1)), (67, 6, .int .i64 (w64 (r1.1 - (min (w64 (1 + (w64 (Int.tmod x5 3)))) r1.1)))), (68, 7, .int .i64 (w64 ((w64 (r1.1 - (min (w64 (1 + (w64 (Int.tmod x5 3)))) r1.1))) + 1))), (69, 8, .int .i64 (Int.tmod (w64 (x3)) (w64 ((w64 (r1.1 - (min (w64 (1 + (w64 (Int.tmod x5 3)))) r1.1))) + 1)))), (70, 9, .int .u8 x4), (71, 10, .int .i64 (w64 (x4))), (72, 11, .pointer (some ⟨b8, 1, none⟩)), (73, 12, .int .i64 r1.2.1), (74, 13, .pointer (some ⟨b10, 1, none⟩)), (75, 14, .int .i64 (min (w64 (1 + (w64 (Int.tmod x6 3)))) r1.2.1)), (76, 15, .int .i64 (w64 (r1.2.1 - (min (w64 (1 + (w64 (Int.tmod x6 3)))) r1.2.1)))), (77, 16, .int .i64 (w64 ((w64 (r1.2.1 - (min (w64 (1 + (w64 (Int.tmod x6 3)))) r1.2.1))) + 1))), (78, 17, .int .i64 (Int.tmod (w64 (x4)) (w64 ((w64 (r1.2.1 - (min (w64 (1 + (w64 (Int.tmod x6 3)))) r1.2.1))) + 1)))), (19, 18, .int .i64 (Int.tmod (w64 (x3)) (w64 ((w64 (r1.1 - (min (w64 (1 + (w64 (Int.tmod x5 3)))) r1.1))) + 1)))), (20, 19, .int .i64 (Int.tmod (w64 (x4)) (w64 ((w64 (r1.2.1 - (min (w64 (1 + (w64 (Int.tmod x6 3)))) r1.2.1))) + 1))))] L f0 ∧ Sat Iq (blk b10 28 [.int .i64 (min (w64 (1 + (w64 (Int.tmod x5 3)))) r1.1), .int .i64 (min (w64 (1 + (w64 (Int.tmod x6 3)))) r1.2.1), .slice none 0 0] :: blk b8 26 [.int .i64 r1.1, .int .i64 r1.2.1, .slice a5 r1.2.2.length c6] :: F) w) ⟨J3, Im.le.refl _, (frL_ff _).symm, hs.drew⟩ ⟨?_, ?_, ?_, ?_, ?_, ?_, ?_, ?_, ?_, ?_, ?_, ?_, ?_, ?_, ?_, ?_, ?_, ?_, ?_, ?_, trivial⟩ ?_
  all_goals clear hs
  · rintro L f w _ hL ⟨Iq, hleq, rfl, hs⟩
    replace hx2 := hx2.mono hleq
    replace hR7 := hR7.mono hleq
    refine ow_v (x_move (v := .int .u8 x3) rfl) rfl ?_
    exact ow_nil ⟨rfl, rfl, Iq, hleq, frL_set rfl rfl, hs⟩
  · rintro L f w ⟨hL0, _⟩ hL ⟨Iq, hleq, rfl, hs⟩
    replace hx2 := hx2.mono hleq
    replace hR7 := hR7.mono hleq
    refine ow_v (x_conv (a := x3) it5 it3 (frL_get rfl hL0)) rfl ?_
    exact ow_nil ⟨rfl, rfl, Iq, hleq, frL_set rfl rfl, hs⟩
  · rintro L f w _ hL ⟨Iq, hleq, rfl, hs⟩
    replace hx2 := hx2.mono hleq
    replace hR7 := hR7.mono hleq
    refine ow_field (b := b8) (o := 0) fl26_0 rfl ?_
    exact ow_nil ⟨rfl, rfl, Iq, hleq, frL_set rfl rfl, hs⟩
  · rintro L f w ⟨hL2, _⟩ hL ⟨Iq, hleq, rfl, hs⟩
    replace hx2 := hx2.mono hleq
    replace hR7 := hR7.mono hleq
    refine ow_load (k := 1) (vs := [.int .i64 r1.1]) (v := .int .i64 r1.1) hs rfl (frL_get rfl hL2) ty3 rfl rfl rfl ?_
    exact ow_nil ⟨rfl, rfl, Iq, hleq, frL_set rfl rfl, hs⟩
  · rintro L f w _ hL ⟨Iq, hleq, rfl, hs⟩
    replace hx2 := hx2.mono hleq
    replace hR7 := hR7.mono hleq
    refine ow_field (b := b10) (o := 0) fl28_0 rfl ?_
    exact ow_nil ⟨rfl, rfl, Iq, hleq, frL_set rfl rfl, hs⟩
  · rintro L f w ⟨hL4, _⟩ hL ⟨Iq, hleq, rfl, hs⟩
    replace hx2 := hx2.mono hleq
    replace hR7 := hR7.mono hleq
    refine ow_load (k := 0) (vs := [.int .i64 (min (w64 (1 + (w64 (Int.tmod x5 3)))) r1.1)]) (v := .int .i64 (min (w64 (1 + (w64 (Int.tmod x5 3)))) r1.1)) hs rfl (frL_get rfl hL4) ty3 rfl rfl rfl ?_
    exact ow_nil ⟨rfl, rfl, Iq, hleq, frL_set rfl rfl, hs⟩
  · rintro L f w ⟨hL3, hL5, _⟩ hL ⟨Iq, hleq, rfl, hs⟩
    replace hx2 := hx2.mono hleq
    replace hR7 := hR7.mono hleq
    refine ow_v (x_sub (k := .i64) (a := r1.1) (b := (min (w64 (1 + (w64 (Int.tmod x5 3)))) r1.1)) (frL_get rfl hL3) (frL_get rfl hL5)) rfl ?_
    exact ow_nil ⟨rfl, rfl, Iq, hleq, frL_set rfl rfl, hs⟩
  · rintro L f w ⟨hL6, _⟩ hL ⟨Iq, hleq, rfl, hs⟩
    replace hx2 := hx2.mono hleq
    replace hR7 := hR7.mono hleq
    refine ow_v (x_add (k := .i64) (a := (w64 (r1.1 - (min (w64 (1 + (w64 (Int.tmod x5 3)))) r1.1)))) (b := 1) (frL_get rfl hL6) rfl) rfl ?_
    exact ow_nil ⟨rfl, rfl, Iq, hleq, frL_set rfl rfl, hs⟩
  · rintro L f w ⟨hL1, hL7, _⟩ hL ⟨Iq, hleq, rfl, hs⟩
    replace hx2 := hx2.mono hleq
    replace hR7 := hR7.mono hleq
    refine ow_v (x_rem (k := .i64) (a := (w64 (x3))) (b := (w64 ((w64 (r1.1 - (min (w64 (1 + (w64 (Int.tmod x5 3)))) r1.1))) + 1))) (frL_get rfl hL1) (frL_get rfl hL7) hg12) rfl ?_
    exact ow_nil ⟨rfl, rfl, Iq, hleq, frL_set rfl rfl, hs⟩
  · rintro L f w _ hL ⟨Iq, hleq, rfl, hs⟩
    replace hx2 := hx2.mono hleq
    replace hR7 := hR7.mono hleq
    refine ow_v (x_move (v := .int .u8 x4) rfl) rfl ?_
    exact ow_nil ⟨rfl, rfl, Iq, hleq, frL_set rfl rfl, hs⟩
  · rintro L f w ⟨hL9, _⟩ hL ⟨Iq, hleq, rfl, hs⟩
    replace hx2 := hx2.mono hleq
    replace hR7 := hR7.mono hleq
    refine ow_v (x_conv (a := x4) it5 it3 (frL_get rfl hL9)) rfl ?_
    exact ow_nil ⟨rfl, rfl, Iq, hleq, frL_set rfl rfl, hs⟩
  · rintro L f w _ hL ⟨Iq, hleq, rfl, hs⟩
    replace hx2 := hx2.mono hleq
    replace hR7 := hR7.mono hleq
    refine ow_field (b := b8) (o := 0) fl26_1 rfl ?_
    exact ow_nil ⟨rfl, rfl, Iq, hleq, frL_set rfl rfl, hs⟩
  · rintro L f w ⟨hL11, _⟩ hL ⟨Iq, hleq, rfl, hs⟩
    replace hx2 := hx2.mono hleq
    replace hR7 := hR7.mono hleq
    refine ow_load (k := 1) (vs := [.int .i64 r1.2.1]) (v := .int .i64 r1.2.1) hs rfl (frL_get rfl hL11) ty3 rfl rfl rfl ?_
    exact ow_nil ⟨rfl, rfl, Iq, hleq, frL_set rfl rfl, hs⟩
  · rintro L f w _ hL ⟨Iq, hleq, rfl, hs⟩
    replace hx2 := hx2.mono hleq
    replace hR7 := hR7.mono hleq
    refine ow_field (b := b10) (o := 0) fl28_1 rfl ?_
    exact ow_nil ⟨rfl, rfl, Iq, hleq, frL_set rfl rfl, hs⟩
  · rintro L f w ⟨hL13, _⟩ hL ⟨Iq, hleq, rfl, hs⟩
    replace hx2 := hx2.mono hleq
    replace hR7 := hR7.mono hleq
    refine ow_load (k := 0) (vs := [.int .i64 (min (w64 (1 + (w64 (Int.tmod x6 3)))) r1.2.1)]) (v := .int .i64 (min (w64 (1 + (w64 (Int.tmod x6 3)))) r1.2.1)) hs rfl (frL_get rfl hL13) ty3 rfl rfl rfl ?_
    exact ow_nil ⟨rfl, rfl, Iq, hleq, frL_set rfl rfl, hs⟩
  · rintro L f w ⟨hL12, hL14, _⟩ hL ⟨Iq, hleq, rfl, hs⟩
    replace hx2 := hx2.mono hleq
    replace hR7 := hR7.mono hleq
    refine ow_v (x_sub (k := .i64) (a := r1.2.1) (b := (min (w64 (1 + (w64 (Int.tmod x6 3)))) r1.2.1)) (frL_get rfl hL12) (frL_get rfl hL14)) rfl ?_
    exact ow_nil ⟨rfl, rfl, Iq, hleq, frL_set rfl rfl, hs⟩
  · rintro L f w ⟨hL15, _⟩ hL ⟨Iq, hleq, rfl, hs⟩
    replace hx2 := hx2.mono hleq
    replace hR7 := hR7.mono hleq
    refine ow_v (x_add (k := .i64) (a := (w64 (r1.2.1 - (min (w64 (1 + (w64 (Int.tmod x6 3)))) r1.2.1)))) (b := 1) (frL_get rfl hL15) rfl) rfl ?_
    exact ow_nil ⟨rfl, rfl, Iq, hleq, frL_set rfl rfl, hs⟩
  · rintro L f w ⟨hL10, hL16, _⟩ hL ⟨Iq, hleq, rfl, hs⟩
    replace hx2 := hx2.mono hleq
    replace hR7 := hR7.mono hleq
    refine ow_v (x_rem (k := .i64) (a := (w64 (x4))) (b := (w64 ((w64 (r1.2.1 - (min (w64 (1 + (w64 (Int.tmod x6 3)))) r1.2.1))) + 1))) (frL_get rfl hL10) (frL_get rfl hL16) hg13) rfl ?_
    exact ow_nil ⟨rfl, rfl, Iq, hleq, frL_set rfl rfl, hs⟩
  · rintro L f w ⟨hL8, hL0, hL1, hL2, hL3, hL4, hL5, hL6, hL7, _, _⟩ hL ⟨Iq, hleq, rfl, hs⟩
    replace hx2 := hx2.mono hleq
    replace hR7 := hR7.mono hleq
    refine ow_v (x_assign (v := .int .i64 (Int.tmod (w64 (x3)) (w64 ((w64 (r1.1 - (min (w64 (1 + (w64 (Int.tmod x5 3)))) r1.1))) + 1)))) (frL_get rfl hL8)) rfl ?_
    exact ow_nil ⟨rfl, rfl, Iq, hleq, frL_set rfl rfl, hs⟩
  · rintro L f w ⟨hL17, hL18, hL0, hL1, hL2, hL3, hL4, hL5, hL6, hL7, hL8, hL9, hL10, hL11, hL12, hL13, hL14, hL15, hL16, _, _, _⟩ hL ⟨Iq, hleq, rfl, hs⟩
    replace hx2 := hx2.mono hleq
    replace hR7 := hR7.mono hleq
    refine ow_v (x_assign (v := .int .i64 (Int.tmod (w64 (x4)) (w64 ((w64 (r1.2.1 - (min (w64 (1 + (w64 (Int.tmod x6 3)))) r1.2.1))) + 1)))) (frL_get rfl hL17)) rfl ?_
    exact ow_nil ⟨rfl, rfl, Iq, hleq, frL_set rfl rfl, hs⟩
  rintro L f w hall ⟨I15, hle14, rfl, hs⟩
  rw [frL_tt _ rfl hall]
  replace hx2 := hx2.mono hle14
  replace hR7 := hR7.mono hle14
  refine seqK_n ?_
  replace hs := hs.pushNil 3 1
  obtain ⟨o108, hm2, hq109⟩ := bind_some hm
  replace hm := hm2; clear hm2
  refine cw_join (fun f ds w => ∃ (a_o_nb_r11_2 : Option Addr) (c_o_nb_r11_2 : Nat) (I110 : Im), ds = [] ∧ Im.le I15 I110 ∧ Sat I110 (osl 3 1 a_o_nb_r11_2 o108.length c_o_nb_r11_2 (o108.flatMap e64) :: blk b10 28 [.int .i64 (min (w64 (1 + (w64 (Int.tmod x5 3)))) r1.1), .int .i64 (min (w64 (1 + (w64 (Int.tmod x6 3)))) r1.2.1), .slice a_o_nb_r11_2 o108.length c_o_nb_r11_2] :: blk b8 26 [.int .i64 r1.1, .int .i64 r1.2.1, .slice a5 r1.2.2.length c6] :: F) w ∧ f 7 = .int .u16 x7 ∧ f 16 = .bool false ∧ f 17 = .pointer (some ⟨b8, 0, none⟩) ∧ f 18 = .pointer (some ⟨b10, 0, none⟩) ∧ f 19 = .int .i64 (Int.tmod (w64 (x3)) (w64 ((w64 (r1.1 - (min (w64 (1 + (w64 (Int.tmod x5 3)))) r1.1))) + 1))) ∧ f 20 = .int .i64 (Int.tmod (w64 (x4)) (w64 ((w64 (r1.2.1 - (min (w64 (1 + (w64 (Int.tmod x6 3)))) r1.2.1))) + 1)))) ?_ ?_
  · skip
    refine cw_seq ?_
    refine cw_region ?_
    refine ow_v (x_assign (v := .int .i64 0) rfl) rfl ?_
    refine ow_nil ?_
    refine seqK_n ?_
    refine cw_block ?_
    refine cw_loop (S := fun k f ds w => ∃ (v0_t_21 : Int) (v0_o_nb_r11_2 : List Int), ∃ (a_o_nb_r11_2 : Option Addr) (c_o_nb_r11_2 : Nat) (I137 : Im), ds = [] ∧ Im.le I15 I137 ∧ f3_l0 x3 x4 x5 x6 r1 k v0_t_21 v0_o_nb_r11_2 = some o108 ∧ Sat I137 (osl 3 1 a_o_nb_r11_2 v0_o_nb_r11_2.length c_o_nb_r11_2 (v0_o_nb_r11_2.flatMap e64) :: blk b10 28 [.int .i64 (min (w64 (1 + (w64 (Int.tmod x5 3)))) r1.1), .int .i64 (min (w64 (1 + (w64 (Int.tmod x6 3)))) r1.2.1), .slice a_o_nb_r11_2 v0_o_nb_r11_2.length c_o_nb_r11_2] :: blk b8 26 [.int .i64 r1.1, .int .i64 r1.2.1, .slice a5 r1.2.2.length c6] :: F) w ∧ f 7 = .int .u16 x7 ∧ f 16 = .bool false ∧ f 17 = .pointer (some ⟨b8, 0, none⟩) ∧ f 18 = .pointer (some ⟨b10, 0, none⟩) ∧ f 19 = .int .i64 (Int.tmod (w64 (x3)) (w64 ((w64 (r1.1 - (min (w64 (1 + (w64 (Int.tmod x5 3)))) r1.1))) + 1))) ∧ f 20 = .int .i64 (Int.tmod (w64 (x4)) (w64 ((w64 (r1.2.1 - (min (w64 (1 + (w64 (Int.tmod x6 3)))) r1.2.1))) + 1))) ∧ f 21 = .int .i64 v0_t_21) ?_ (k := FUEL) ⟨0, ([] : List Int), none, 0, I15, rfl, Im.le.refl _, hm, hs, rfl, rfl, rfl, rfl, rfl, rfl, rfl⟩
    clear hm hs
    rintro k f ds w ⟨v0_t_21, v0_o_nb_r11_2, a_o_nb_r11_2, c_o_nb_r11_2, I137, rfl, hle138, hm, hs, ht7_L0, ht16_L0, ht17_L0, ht18_L0, ht19_L0, ht20_L0, ht21_L0⟩
    replace hx2 := hx2.mono hle138
    replace hR7 := hR7.mono hle138
    rcases k with _ | k
    · unfold f3_l0 at hm; cases hm
    unfold f3_l0 at hm
    refine cw_seq ?_
    refine cw_seq ?_
    refine cw_region ?_
    refine ow_v (x_move (v := .int .i64 v0_t_21) ht21_L0) rfl ?_
    refine ow_field (b := b10) (o := 0) fl28_0 ht18_L0 ?_
    refine ow_load (k := 1) (vs := [.int .i64 (min (w64 (1 + (w64 (Int.tmod x5 3)))) r1.1)]) (v := .int .i64 (min (w64 (1 + (w64 (Int.tmod x5 3)))) r1.1)) hs rfl rfl ty3 rfl rfl rfl ?_
    refine ow_field (b := b10) (o := 0) fl28_1 ht18_L0 ?_
    refine ow_load (k := 1) (vs := [.int .i64 (min (w64 (1 + (w64 (Int.tmod x6 3)))) r1.2.1)]) (v := .int .i64 (min (w64 (1 + (w64 (Int.tmod x6 3)))) r1.2.1)) hs rfl rfl ty3 rfl rfl rfl ?_
    refine ow_v (x_mul (k := .i64) (a := (min (w64 (1 + (w64 (Int.tmod x5 3)))) r1.1)) (b := (min (w64 (1 + (w64 (Int.tmod x6 3)))) r1.2.1)) rfl rfl) rfl ?_
    refine ow_v (x_lss (k := .i64) (a := v0_t_21) (b := (w64 ((min (w64 (1 + (w64 (Int.tmod x5 3)))) r1.1) * (min (w64 (1 + (w64 (Int.tmod x6 3)))) r1.2.1)))) rfl rfl) rfl ?_
    refine ow_nil ?_
    refine seqK_n ?_
    by_cases hc139 : v0_t_21 < (w64 ((min (w64 (1 + (w64 (Int.tmod x5 3)))) r1.1) * (min (w64 (1 + (w64 (Int.tmod x6 3)))) r1.2.1)))
    · rw [if_pos hc139] at hm
      refine cw_if_t rfl (decide_eq_true hc139) ?_
      refine cw_skip ?_
      refine seqK_n ?_
      refine cw_seq ?_
      refine cw_block ?_
      have hg140 := (ite_some hm).1
      replace hm := (ite_some hm).2
      have hg141 := (ite_some hm).1
      replace hm := (ite_some hm).2
      have hg142 := (ite_some hm).1
      replace hm := (ite_some hm).2
      have hg147 := (ite_some hm).1
      replace hm := (ite_some hm).2
      refine cw_drawF mixed rfl (fun f0 L f w => ∃ (a145 : Option Addr) (a148 : Option Addr) (c149 : Nat) (Iq : Im), Im.le I137 Iq ∧ f = frL [(88, 0, .pointer (some ⟨b10, 2, none⟩)), (89, 1, .slice a_o_nb_r11_2 v0_o_nb_r11_2.length c_o_nb_r11_2), (90, 2, .pointer (some ⟨b8, 2, none⟩)), (91, 3, .slice a5 r1.2.2.length c6), (92, 4, .int .i64 (Int.tmod (w64 (x4)) (w64 ((w64 (r1.2.1 - (min (w64 (1 + (w64 (Int.tmod x6 3)))) r1.2.1))) + 1)))), (93, 5, .int .i64 v0_t_21), (94, 6, .pointer (some ⟨b10, 0, none⟩)), (95, 7, .int .i64 (min (w64 (1 + (w64 (Int.tmod x5 3)))) r1.1)), (96, 8, .int .i64 (w64 (Int.tdiv v0_t_21 (min (w64 (1 + (w64 (Int.tmod x5 3)))) r1.1)))), (97, 9, .int .i64 (w64 ((Int.tmod (w64 (x4)) (w64 ((w64 (r1.2.1 - (min (w64 (1 + (w64 (Int.tmod x6 3)))) r1.2.1))) + 1))) + (w64 (Int.tdiv v0_t_21 (min (w64 (1 + (w64 (Int.tmod x5 3)))) r1.1)))))), (98, 10, .pointer (some ⟨b8, 0, none⟩)), (99, 11, .int .i64 r1.1), (100, 12, .int .i64 (w64 ((w64 ((Int.tmod (w64 (x4)) (w64 ((w64 (r1.2.1 - (min (w64 (1 + (w64 (Int.tmod x6 3)))) r1.2.1))) + 1))) + (w64 (Int.tdiv v0_t_21 (min (w64 (1 + (w64 (Int.tmod x5 3)))) r1.1))))) * r1.1))), (101, 13, .int .i64 (Int.tmod (w64 (x3)) (w64 ((w64 (r1.1 - (min (w64 (1 + (w64 (Int.tmod x5 3)))) r1.1))) + 1)))), (102, 14, .int .i64 (w64 ((w64 ((w64 ((Int.tmod (w64 (x4)) (w64 ((w64 (r1.2.1 - (min (w64 (1 + (w64 (Int.tmod x6 3)))) r1.2.1))) + 1))) + (w64 (Int.tdiv v0_t_21 (min (w64 (1 + (w64 (Int.tmod x5 3)))) r1.1))))) * r1.1)) + (Int.tmod (w64 (x3)) (w64 ((w64 (r1.1 - (min (w64 (1 + (w64 (Int.tmod x5 3)))) r1.1))) + 1)))))), (103, 15, .int .i64 v0_t_21), (104, 16, .pointer (some ⟨b10, 0, none⟩)), (105, 17, .int .i64 (min (w64 (1 + (w64 (Int.tmod x5 3)))) r1.1)), (106, 18, .int .i64 (Int.tmod v0_t_21 (min (w64 (1 + (w64 (Int.tmod x5 3)))) r1.1))), (107, 19, .int .i64 (w64 ((w64 ((w64 ((w64 ((Int.tmod (w64 (x4)) (w64 ((w64 (r1.2.1 - (min (w64 (1 + (w64 (Int.tmod x6 3)))) r1.2.1))) + 1))) + (w64 (Int.tdiv v0_t_21 (min (w64 (1 + (w64 (Int.tmod x5 3)))) r1.1))))) * r1.1)) + (Int.tmod (w64 (x3)) (w64 ((w64 (r1.1 - (min (w64 (1 + (w64 (Int.tmod x5 3)))) r1.1))) + 1))))) + (Int.tmod v0_t_21 (min (w64 (1 + (w64 (Int.tmod x5 3)))) r1.1))))), (108, 20, .pointer (some (ea a5 ((w64 ((w64 ((w64 ((w64 ((Int.tmod (w64 (x4)) (w64 ((w64 (r1.2.1 - (min (w64 (1 + (w64 (Int.tmod x6 3)))) r1.2.1))) + 1))) + (w64 (Int.tdiv v0_t_21 (min (w64 (1 + (w64 (Int.tmod x5 3)))) r1.1))))) * r1.1)) + (Int.tmod (w64 (x3)) (w64 ((w64 (r1.1 - (min (w64 (1 + (w64 (Int.tmod x5 3)))) r1.1))) + 1))))) + (Int.tmod v0_t_21 (min (w64 (1 + (w64 (Int.tmod x5 3)))) r1.1)))).toNat * 1)))), (109, 21, .int .i64 (at' r1.2.2 (w64 ((w64 ((w64 ((w64 ((Int.tmod (w64 (x4)) (w64 ((w64 (r1.2.1 - (min (w64 (1 + (w64 (Int.tmod x6 3)))) r1.2.1))) + 1))) + (w64 (Int.tdiv v0_t_21 (min (w64 (1 + (w64 (Int.tmod x5 3)))) r1.1))))) * r1.1)) + (Int.tmod (w64 (x3)) (w64 ((w64 (r1.1 - (min (w64 (1 + (w64 (Int.tmod x5 3)))) r1.1))) + 1))))) + (Int.tmod v0_t_21 (min (w64 (1 + (w64 (Int.tmod x5 3)))) r1.1)))))), (110, 22, .slice a145 ([(at' r1.2.2 (w64 ((w64 ((w64 ((w64 ((Int.tmod (w64 (x4)) (w64 ((w64 (r1.2.1 - (min (w64 (1 + (w64 (Int.tmod x6 3)))) r1.2.1))) + 1))) + (w64 (Int.tdiv v0_t_21 (min (w64 (1 + (w64 (Int.tmod x5 3)))) r1.1))))) * r1.1)) + (Int.tmod (w64 (x3)) (w64 ((w64 (r1.1 - (min (w64 (1 + (w64 (Int.tmod x5 3)))) r1.1))) + 1))))) + (Int.tmod v0_t_21 (min (w64 (1 + (w64 (Int.tmod x5 3)))) r1.1)))))].length) 1), (111, 23, .slice a148 ((v0_o_nb_r11_2 ++ [(at' r1.2.2 (w64 ((w64 ((w64 ((w64 ((Int.tmod (w64 (x4)) (w64 ((w64 (r1.2.1 - (min (w64 (1 + (w64 (Int.tmod x6 3)))) r1.2.1))) + 1))) + (w64 (Int.tdiv v0_t_21 (min (w64 (1 + (w64 (Int.tmod x5 3)))) r1.1))))) * r1.1)) + (Int.tmod (w64 (x3)) (w64 ((w64 (r1.1 - (min (w64 (1 + (w64 (Int.tmod x5 3)))) r1.1))) + 1))))) + (Int.tmod v0_t_21 (min (w64 (1 + (w64 (Int.tmod x5 3)))) r1.1)))))]).length) c149), (112, 24, .pointer (some ⟨b10, 2, none⟩))] L f0 ∧ Sat Iq (rL [(23, osl 3 1 a148 (v0_o_nb_r11_2 ++ [(at' r1.2.2 (w64 ((w64 ((w64 ((w64 ((Int.tmod (w64 (x4)) (w64 ((w64 (r1.2.1 - (min (w64 (1 + (w64 (Int.tmod x6 3)))) r1.2.1))) + 1))) + (w64 (Int.tdiv v0_t_21 (min (w64 (1 + (w64 (Int.tmod x5 3)))) r1.1))))) * r1.1)) + (Int.tmod (w64 (x3)) (w64 ((w64 (r1.1 - (min (w64 (1 + (w64 (Int.tmod x5 3)))) r1.1))) + 1))))) + (Int.tmod v0_t_21 (min (w64 (1 + (w64 (Int.tmod x5 3)))) r1.1)))))]).length c149 ((v0_o_nb_r11_2 ++ [(at' r1.2.2 (w64 ((w64 ((w64 ((w64 ((Int.tmod (w64 (x4)) (w64 ((w64 (r1.2.1 - (min (w64 (1 + (w64 (Int.tmod x6 3)))) r1.2.1))) + 1))) + (w64 (Int.tdiv v0_t_21 (min (w64 (1 + (w64 (Int.tmod x5 3)))) r1.1))))) * r1.1)) + (Int.tmod (w64 (x3)) (w64 ((w64 (r1.1 - (min (w64 (1 + (w64 (Int.tmod x5 3)))) r1.1))) + 1))))) + (Int.tmod v0_t_21 (min (w64 (1 + (w64 (Int.tmod x5 3)))) r1.1)))))]).flatMap e64))] (osl 3 1 a_o_nb_r11_2 v0_o_nb_r11_2.length c_o_nb_r11_2 (v0_o_nb_r11_2.flatMap e64)) L :: rL [(25, blk b10 28 [.int .i64 (min (w64 (1 + (w64 (Int.tmod x5 3)))) r1.1), .int .i64 (min (w64 (1 + (w64 (Int.tmod x6 3)))) r1.2.1), .slice a148 ((v0_o_nb_r11_2 ++ [(at' r1.2.2 (w64 ((w64 ((w64 ((w64 ((Int.tmod (w64 (x4)) (w64 ((w64 (r1.2.1 - (min (w64 (1 + (w64 (Int.tmod x6 3)))) r1.2.1))) + 1))) + (w64 (Int.tdiv v0_t_21 (min (w64 (1 + (w64 (Int.tmod x5 3)))) r1.1))))) * r1.1)) + (Int.tmod (w64 (x3)) (w64 ((w64 (r1.1 - (min (w64 (1 + (w64 (Int.tmod x5 3)))) r1.1))) + 1))))) + (Int.tmod v0_t_21 (min (w64 (1 + (w64 (Int.tmod x5 3)))) r1.1)))))]).length) c149])] (blk b10 28 [.int .i64 (min (w64 (1 + (w64 (Int.tmod x5 3)))) r1.1), .int .i64 (min (w64 (1 + (w64 (Int.tmod x6 3)))) r1.2.1), .slice a_o_nb_r11_2 v0_o_nb_r11_2.length c_o_nb_r11_2]) L :: blk b8 26 [.int .i64 r1.1, .int .i64 r1.2.1, .slice a5 r1.2.2.length c6] :: F) w ∧ (L 22 = true → Rs Iq 1 a145 [(at' r1.2.2 (w64 ((w64 ((w64 ((w64 ((Int.tmod (w64 (x4)) (w64 ((w64 (r1.2.1 - (min (w64 (1 + (w64 (Int.tmod x6 3)))) r1.2.1))) + 1))) + (w64 (Int.tdiv v0_t_21 (min (w64 (1 + (w64 (Int.tmod x5 3)))) r1.1))))) * r1.1)) + (Int.tmod (w64 (x3)) (w64 ((w64 (r1.1 - (min (w64 (1 + (w64 (Int.tmod x5 3)))) r1.1))) + 1))))) + (Int.tmod v0_t_21 (min (w64 (1 + (w64 (Int.tmod x5 3)))) r1.1)))))].length 1 ([(at' r1.2.2 (w64 ((w64 ((w64 ((w64 ((Int.tmod (w64 (x4)) (w64 ((w64 (r1.2.1 - (min (w64 (1 + (w64 (Int.tmod x6 3)))) r1.2.1))) + 1))) + (w64 (Int.tdiv v0_t_21 (min (w64 (1 + (w64 (Int.tmod x5 3)))) r1.1))))) * r1.1)) + (Int.tmod (w64 (x3)) (w64 ((w64 (r1.1 - (min (w64 (1 + (w64 (Int.tmod x5 3)))) r1.1))) + 1))))) + (Int.tmod v0_t_21 (min (w64 (1 + (w64 (Int.tmod x5 3)))) r1.1)))))].flatMap e64)) ∧ (L 25 = true → L 1 = true) ∧ (L 25 = true → L 7 = true) ∧ (L 25 = true → L 17 = true) ∧ (L 25 = true → L 23 = true)) ⟨none, none, 0, I137, Im.le.refl _, (frL_ff _).symm, hs.drew, (fun h => by cases h), (fun h => by cases h), (fun h => by cases h), (fun h => by cases h), (fun h => by cases h)⟩ ⟨?_, ?_, ?_, ?_, ?_, ?_, ?_, ?_, ?_, ?_, ?_, ?_, ?_, ?_, ?_, ?_, ?_, ?_, ?_, ?_, ?_, ?_, ?_, ?_, ?_, ?_, trivial⟩ ?_
      all_goals clear hs
      · rintro L f w _ hL ⟨a145, a148, c149, Iq, hleq, rfl, hs, khR146, pr25_1, pr25_7, pr25_17, pr25_23⟩
        replace hx2 := hx2.mono hleq
        replace hR7 := hR7.mono hleq
        refine ow_field (b := b10) (o := 0) fl28_2 ht18_L0 ?_
        exact ow_nil ⟨rfl, rfl, a145, a148, c149, Iq, hleq, frL_set rfl rfl, hs, (fun h => khR146 h), pr25_1, pr25_7, pr25_17, pr25_23⟩
      · rintro L f w ⟨hL0, _⟩ hL ⟨a145, a148, c149, Iq, hleq, rfl, hs, khR146, pr25_1, pr25_7, pr25_17, pr25_23⟩
        replace hx2 := hx2.mono hleq
        replace hR7 := hR7.mono hleq
        replace hs := hs.eqv (k := 1) rfl ((rL_f (show L 25 = false from pfalse pr25_1 hL) (rL_n)))
        refine ow_load (k := 1) (vs := [.slice a_o_nb_r11_2 v0_o_nb_r11_2.length c_o_nb_r11_2]) (v := .slice a_o_nb_r11_2 v0_o_nb_r11_2.length c_o_nb_r11_2) hs rfl (frL_get rfl hL0) ty24 rfl rfl rfl ?_
        replace hs := hs.eqv (k := 1) rfl (Eq.symm (a := rL [(25, blk b10 28 [.int .i64 (min (w64 (1 + (w64 (Int.tmod x5 3)))) r1.1), .int .i64 (min (w64 (1 + (w64 (Int.tmod x6 3)))) r1.2.1), .slice a148 ((v0_o_nb_r11_2 ++ [(at' r1.2.2 (w64 ((w64 ((w64 ((w64 ((Int.tmod (w64 (x4)) (w64 ((w64 (r1.2.1 - (min (w64 (1 + (w64 (Int.tmod x6 3)))) r1.2.1))) + 1))) + (w64 (Int.tdiv v0_t_21 (min (w64 (1 + (w64 (Int.tmod x5 3)))) r1.1))))) * r1.1)) + (Int.tmod (w64 (x3)) (w64 ((w64 (r1.1 - (min (w64 (1 + (w64 (Int.tmod x5 3)))) r1.1))) + 1))))) + (Int.tmod v0_t_21 (min (w64 (1 + (w64 (Int.tmod x5 3)))) r1.1)))))]).length) c149])] (blk b10 28 [.int .i64 (min (w64 (1 + (w64 (Int.tmod x5 3)))) r1.1), .int .i64 (min (w64 (1 + (w64 (Int.tmod x6 3)))) r1.2.1), .slice a_o_nb_r11_2 v0_o_nb_r11_2.length c_o_nb_r11_2]) (setL L 1)) (((rL_f (L := setL L 1) (show L 25 = false from pfalse pr25_1 hL) (rL_n)))))
        exact ow_nil ⟨rfl, rfl, a145, a148, c149, Iq, hleq, frL_set rfl rfl, hs, (fun h => khR146 h), (fun _ => rfl), pr25_7, pr25_17, pr25_23⟩
      · rintro L f w _ hL ⟨a145, a148, c149, Iq, hleq, rfl, hs, khR146, pr25_1, pr25_7, pr25_17, pr25_23⟩
        replace hx2 := hx2.mono hleq
        replace hR7 := hR7.mono hleq
        refine ow_field (b := b8) (o := 0) fl26_2 ht17_L0 ?_
        exact ow_nil ⟨rfl, rfl, a145, a148, c149, Iq, hleq, frL_set rfl rfl, hs, (fun h => khR146 h), pr25_1, pr25_7, pr25_17, pr25_23⟩
      · rintro L f w ⟨hL2, _⟩ hL ⟨a145, a148, c149, Iq, hleq, rfl, hs, khR146, pr25_1, pr25_7, pr25_17, pr25_23⟩
        replace hx2 := hx2.mono hleq
        replace hR7 := hR7.mono hleq
        refine ow_load (k := 2) (vs := [.slice a5 r1.2.2.length c6]) (v := .slice a5 r1.2.2.length c6) hs rfl (frL_get rfl hL2) ty24 rfl rfl rfl ?_
        exact ow_nil ⟨rfl, rfl, a145, a148, c149, Iq, hleq, frL_set rfl rfl, hs, (fun h => khR146 h), pr25_1, pr25_7, pr25_17, pr25_23⟩
      · rintro L f w _ hL ⟨a145, a148, c149, Iq, hleq, rfl, hs, khR146, pr25_1, pr25_7, pr25_17, pr25_23⟩
        replace hx2 := hx2.mono hleq
        replace hR7 := hR7.mono hleq
        refine ow_v (x_move (v := .int .i64 (Int.tmod (w64 (x4)) (w64 ((w64 (r1.2.1 - (min (w64 (1 + (w64 (Int.tmod x6 3)))) r1.2.1))) + 1)))) ht20_L0) rfl ?_
        exact ow_nil ⟨rfl, rfl, a145, a148, c149, Iq, hleq, frL_set rfl rfl, hs, (fun h => khR146 h), pr25_1, pr25_7, pr25_17, pr25_23⟩
      · rintro L f w _ hL ⟨a145, a148, c149, Iq, hleq, rfl, hs, khR146, pr25_1, pr25_7, pr25_17, pr25_23⟩
        replace hx2 := hx2.mono hleq
        replace hR7 := hR7.mono hleq
        refine ow_v (x_move (v := .int .i64 v0_t_21) ht21_L0) rfl ?_
        exact ow_nil ⟨rfl, rfl, a145, a148, c149, Iq, hleq, frL_set rfl rfl, hs, (fun h => khR146 h), pr25_1, pr25_7, pr25_17, pr25_23⟩
      · rintro L f w _ hL ⟨a145, a148, c149, Iq, hleq, rfl, hs, khR146, pr25_1, pr25_7, pr25_17, pr25_23⟩
        replace hx2 := hx2.mono hleq
        replace hR7 := hR7.mono hleq
        refine ow_field (b := b10) (o := 0) fl28_0 ht18_L0 ?_
        exact ow_nil ⟨rfl, rfl, a145, a148, c149, Iq, hleq, frL_set rfl rfl, hs, (fun h => khR146 h), pr25_1, pr25_7, pr25_17, pr25_23⟩
      · rintro L f w ⟨hL6, _⟩ hL ⟨a145, a148, c149, Iq, hleq, rfl, hs, khR146, pr25_1, pr25_7, pr25_17, pr25_23⟩
        replace hx2 := hx2.mono hleq
        replace hR7 := hR7.mono hleq
        replace hs := hs.eqv (k := 1) rfl ((rL_f (show L 25 = false from pfalse pr25_7 hL) (rL_n)))
        refine ow_load (k := 1) (vs := [.int .i64 (min (w64 (1 + (w64 (Int.tmod x5 3)))) r1.1)]) (v := .int .i64 (min (w64 (1 + (w64 (Int.tmod x5 3)))) r1.1)) hs rfl (frL_get rfl hL6) ty3 rfl rfl rfl ?_
        replace hs := hs.eqv (k := 1) rfl (Eq.symm (a := rL [(25, blk b10 28 [.int .i64 (min (w64 (1 + (w64 (Int.tmod x5 3)))) r1.1), .int .i64 (min (w64 (1 + (w64 (Int.tmod x6 3)))) r1.2.1), .slice a148 ((v0_o_nb_r11_2 ++ [(at' r1.2.2 (w64 ((w64 ((w64 ((w64 ((Int.tmod (w64 (x4)) (w64 ((w64 (r1.2.1 - (min (w64 (1 + (w64 (Int.tmod x6 3)))) r1.2.1))) + 1))) + (w64 (Int.tdiv v0_t_21 (min (w64 (1 + (w64 (Int.tmod x5 3)))) r1.1))))) * r1.1)) + (Int.tmod (w64 (x3)) (w64 ((w64 (r1.1 - (min (w64 (1 + (w64 (Int.tmod x5 3)))) r1.1))) + 1))))) + (Int.tmod v0_t_21 (min (w64 (1 + (w64 (Int.tmod x5 3)))) r1.1)))))]).length) c149])] (blk b10 28 [.int .i64 (min (w64 (1 + (w64 (Int.tmod x5 3)))) r1.1), .int .i64 (min (w64 (1 + (w64 (Int.tmod x6 3)))) r1.2.1), .slice a_o_nb_r11_2 v0_o_nb_r11_2.length c_o_nb_r11_2]) (setL L 7)) (((rL_f (L := setL L 7) (show L 25 = false from pfalse pr25_7 hL) (rL_n)))))
        exact ow_nil ⟨rfl, rfl, a145, a148, c149, Iq, hleq, frL_set rfl rfl, hs, (fun h => khR146 h), pr25_1, (fun _ => rfl), pr25_17, pr25_23⟩
      · rintro L f w ⟨hL5, hL7, _⟩ hL ⟨a145, a148, c149, Iq, hleq, rfl, hs, khR146, pr25_1, pr25_7, pr25_17, pr25_23⟩
        replace hx2 := hx2.mono hleq
        replace hR7 := hR7.mono hleq
        refine ow_v (x_quo (k := .i64) (a := v0_t_21) (b := (min (w64 (1 + (w64 (Int.tmod x5 3)))) r1.1)) (frL_get rfl hL5) (frL_get rfl hL7) hg140) rfl ?_
        exact ow_nil ⟨rfl, rfl, a145, a148, c149, Iq, hleq, frL_set rfl rfl, hs, (fun h => khR146 h), pr25_1, pr25_7, pr25_17, pr25_23⟩
      · rintro L f w ⟨hL4, hL8, _⟩ hL ⟨a145, a148, c149, Iq, hleq, rfl, hs, khR146, pr25_1, pr25_7, pr25_17, pr25_23⟩
        replace hx2 := hx2.mono hleq
        replace hR7 := hR7.mono hleq
        refine ow_v (x_add (k := .i64) (a := (Int.tmod (w64 (x4)) (w64 ((w64 (r1.2.1 - (min (w64 (1 + (w64 (Int.tmod x6 3)))) r1.2.1))) + 1)))) (b := (w64 (Int.tdiv v0_t_21 (min (w64 (1 + (w64 (Int.tmod x5 3)))) r1.1)))) (frL_get rfl hL4) (frL_get rfl hL8)) rfl ?_
        exact ow_nil ⟨rfl, rfl, a145, a148, c149, Iq, hleq, frL_set rfl rfl, hs, (fun h => khR146 h), pr25_1, pr25_7, pr25_17, pr25_23⟩
      · rintro L f w _ hL ⟨a145, a148, c149, Iq, hleq, rfl, hs, khR146, pr25_1, pr25_7, pr25_17, pr25_23⟩
        replace hx2 := hx2.mono hleq
        replace hR7 := hR7.mono hleq
        refine ow_field (b := b8) (o := 0) fl26_0 ht17_L0 ?_
        exact ow_nil ⟨rfl, rfl, a145, a148, c149, Iq, hleq, frL_set rfl rfl, hs, (fun h => khR146 h), pr25_1, pr25_7, pr25_17, pr25_23⟩
      · rintro L f w ⟨hL10, _⟩ hL ⟨a145, a148, c149, Iq, hleq, rfl, hs, khR146, pr25_1, pr25_7, pr25_17, pr25_23⟩
        replace hx2 := hx2.mono hleq
        replace hR7 := hR7.mono hleq
        refine ow_load (k := 2) (vs := [.int .i64 r1.1]) (v := .int .i64 r1.1) hs rfl (frL_get rfl hL10) ty3 rfl rfl rfl ?_
        exact ow_nil ⟨rfl, rfl, a145, a148, c149, Iq, hleq, frL_set rfl rfl, hs, (fun h => khR146 h), pr25_1, pr25_7, pr25_17, pr25_23⟩
      · rintro L f w ⟨hL9, hL11, _⟩ hL ⟨a145, a148, c149, Iq, hleq, rfl, hs, khR146, pr25_1, pr25_7, pr25_17, pr25_23⟩
        replace hx2 := hx2.mono hleq
        replace hR7 := hR7.mono hleq
        refine ow_v (x_mul (k := .i64) (a := (w64 ((Int.tmod (w64 (x4)) (w64 ((w64 (r1.2.1 - (min (w64 (1 + (w64 (Int.tmod x6 3)))) r1.2.1))) + 1))) + (w64 (Int.tdiv v0_t_21 (min (w64 (1 + (w64 (Int.tmod x5 3)))) r1.1)))))) (b := r1.1) (frL_get rfl hL9) (frL_get rfl hL11)) rfl ?_
        exact ow_nil ⟨rfl, rfl, a145, a148, c149, Iq, hleq, frL_set rfl rfl, hs, (fun h => khR146 h), pr25_1, pr25_7, pr25_17, pr25_23⟩
      · rintro L f w _ hL ⟨a145, a148, c149, Iq, hleq, rfl, hs, khR146, pr25_1, pr25_7, pr25_17, pr25_23⟩
        replace hx2 := hx2.mono hleq
        replace hR7 := hR7.mono hleq
        refine ow_v (x_move (v := .int .i64 (Int.tmod (w64 (x3)) (w64 ((w64 (r1.1 - (min (w64 (1 + (w64 (Int.tmod x5 3)))) r1.1))) + 1)))) ht19_L0) rfl ?_
        exact ow_nil ⟨rfl, rfl, a145, a148, c149, Iq, hleq, frL_set rfl rfl, hs, (fun h => khR146 h), pr25_1, pr25_7, pr25_17, pr25_23⟩
      · rintro L f w ⟨hL12, hL13, _⟩ hL ⟨a145, a148, c149, Iq, hleq, rfl, hs, khR146, pr25_1, pr25_7, pr25_17, pr25_23⟩
        replace hx2 := hx2.mono hleq
        replace hR7 := hR7.mono hleq
        refine ow_v (x_add (k := .i64) (a := (w64 ((w64 ((Int.tmod (w64 (x4)) (w64 ((w64 (r1.2.1 - (min (w64 (1 + (w64 (Int.tmod x6 3)))) r1.2.1))) + 1))) + (w64 (Int.tdiv v0_t_21 (min (w64 (1 + (w64 (Int.tmod x5 3)))) r1.1))))) * r1.1))) (b := (Int.tmod (w64 (x3)) (w64 ((w64 (r1.1 - (min (w64 (1 + (w64 (Int.tmod x5 3)))) r1.1))) + 1)))) (frL_get rfl hL12) (frL_get rfl hL13)) rfl ?_
        exact ow_nil ⟨rfl, rfl, a145, a148, c149, Iq, hleq, frL_set rfl rfl, hs, (fun h => khR146 h), pr25_1, pr25_7, pr25_17, pr25_23⟩
      · rintro L f w _ hL ⟨a145, a148, c149, Iq, hleq, rfl, hs, khR146, pr25_1, pr25_7, pr25_17, pr25_23⟩
        replace hx2 := hx2.mono hleq
        replace hR7 := hR7.mono hleq
        refine ow_v (x_move (v := .int .i64 v0_t_21) ht21_L0) rfl ?_
        exact ow_nil ⟨rfl, rfl, a145, a148, c149, Iq, hleq, frL_set rfl rfl, hs, (fun h => khR146 h), pr25_1, pr25_7, pr25_17, pr25_23⟩
      · rintro L f w _ hL ⟨a145, a148, c149, Iq, hleq, rfl, hs, khR146, pr25_1, pr25_7, pr25_17, pr25_23⟩
        replace hx2 := hx2.mono hleq
        replace hR7 := hR7.mono hleq
        refine ow_field (b := b10) (o := 0) fl28_0 ht18_L0 ?_
        exact ow_nil ⟨rfl, rfl, a145, a148, c149, Iq, hleq, frL_set rfl rfl, hs, (fun h => khR146 h), pr25_1, pr25_7, pr25_17, pr25_23⟩
      · rintro L f w ⟨hL16, _⟩ hL ⟨a145, a148, c149, Iq, hleq, rfl, hs, khR146, pr25_1, pr25_7, pr25_17, pr25_23⟩
        replace hx2 := hx2.mono hleq
        replace hR7 := hR7.mono hleq
        replace hs := hs.eqv (k := 1) rfl ((rL_f (show L 25 = false from pfalse pr25_17 hL) (rL_n)))
        refine ow_load (k := 1) (vs := [.int .i64 (min (w64 (1 + (w64 (Int.tmod x5 3)))) r1.1)]) (v := .int .i64 (min (w64 (1 + (w64 (Int.tmod x5 3)))) r1.1)) hs rfl (frL_get rfl hL16) ty3 rfl rfl rfl ?_
        replace hs := hs.eqv (k := 1) rfl (Eq.symm (a := rL [(25, blk b10 28 [.int .i64 (min (w64 (1 + (w64 (Int.tmod x5 3)))) r1.1), .int .i64 (min (w64 (1 + (w64 (Int.tmod x6 3)))) r1.2.1), .slice a148 ((v0_o_nb_r11_2 ++ [(at' r1.2.2 (w64 ((w64 ((w64 ((w64 ((Int.tmod (w64 (x4)) (w64 ((w64 (r1.2.1 - (min (w64 (1 + (w64 (Int.tmod x6 3)))) r1.2.1))) + 1))) + (w64 (Int.tdiv v0_t_21 (min (w64 (1 + (w64 (Int.tmod x5 3)))) r1.1))))) * r1.1)) + (Int.tmod (w64 (x3)) (w64 ((w64 (r1.1 - (min (w64 (1 + (w64 (Int.tmod x5 3)))) r1.1))) + 1))))) + (Int.tmod v0_t_21 (min (w64 (1 + (w64 (Int.tmod x5 3)))) r1.1)))))]).length) c149])] (blk b10 28 [.int .i64 (min (w64 (1 + (w64 (Int.tmod x5 3)))) r1.1), .int .i64 (min (w64 (1 + (w64 (Int.tmod x6 3)))) r1.2.1), .slice a_o_nb_r11_2 v0_o_nb_r11_2.length c_o_nb_r11_2]) (setL L 17)) (((rL_f (L := setL L 17) (show L 25 = false from pfalse pr25_17 hL) (rL_n)))))
        exact ow_nil ⟨rfl, rfl, a145, a148, c149, Iq, hleq, frL_set rfl rfl, hs, (fun h => khR146 h), pr25_1, pr25_7, (fun _ => rfl), pr25_23⟩
      · rintro L f w ⟨hL15, hL17, _⟩ hL ⟨a145, a148, c149, Iq, hleq, rfl, hs, khR146, pr25_1, pr25_7, pr25_17, pr25_23⟩
        replace hx2 := hx2.mono hleq
        replace hR7 := hR7.mono hleq
        refine ow_v (x_rem (k := .i64) (a := v0_t_21) (b := (min (w64 (1 + (w64 (Int.tmod x5 3)))) r1.1)) (frL_get rfl hL15) (frL_get rfl hL17) hg141) rfl ?_
        exact ow_nil ⟨rfl, rfl, a145, a148, c149, Iq, hleq, frL_set rfl rfl, hs, (fun h => khR146 h), pr25_1, pr25_7, pr25_17, pr25_23⟩
      · rintro L f w ⟨hL14, hL18, _⟩ hL ⟨a145, a148, c149, Iq, hleq, rfl, hs, khR146, pr25_1, pr25_7, pr25_17, pr25_23⟩
        replace hx2 := hx2.mono hleq
        replace hR7 := hR7.mono hleq
        refine ow_v (x_add (k := .i64) (a := (w64 ((w64 ((w64 ((Int.tmod (w64 (x4)) (w64 ((w64 (r1.2.1 - (min (w64 (1 + (w64 (Int.tmod x6 3)))) r1.2.1))) + 1))) + (w64 (Int.tdiv v0_t_21 (min (w64 (1 + (w64 (Int.tmod x5 3)))) r1.1))))) * r1.1)) + (Int.tmod (w64 (x3)) (w64 ((w64 (r1.1 - (min (w64 (1 + (w64 (Int.tmod x5 3)))) r1.1))) + 1)))))) (b := (Int.tmod v0_t_21 (min (w64 (1 + (w64 (Int.tmod x5 3)))) r1.1))) (frL_get rfl hL14) (frL_get rfl hL18)) rfl ?_
        exact ow_nil ⟨rfl, rfl, a145, a148, c149, Iq, hleq, frL_set rfl rfl, hs, (fun h => khR146 h), pr25_1, pr25_7, pr25_17, pr25_23⟩
      · rintro L f w ⟨hL3, hL19, _⟩ hL ⟨a145, a148, c149, Iq, hleq, rfl, hs, khR146, pr25_1, pr25_7, pr25_17, pr25_23⟩
        replace hx2 := hx2.mono hleq
        replace hR7 := hR7.mono hleq
        refine ow_index (i := (w64 ((w64 ((w64 ((w64 ((Int.tmod (w64 (x4)) (w64 ((w64 (r1.2.1 - (min (w64 (1 + (w64 (Int.tmod x6 3)))) r1.2.1))) + 1))) + (w64 (Int.tdiv v0_t_21 (min (w64 (1 + (w64 (Int.tmod x5 3)))) r1.1))))) * r1.1)) + (Int.tmod (w64 (x3)) (w64 ((w64 (r1.1 - (min (w64 (1 + (w64 (Int.tmod x5 3)))) r1.1))) + 1))))) + (Int.tmod v0_t_21 (min (w64 (1 + (w64 (Int.tmod x5 3)))) r1.1))))) sl24 ty3 (frL_get rfl hL3) (frL_get rfl hL19) hg142.1 hg142.2 (Rs.some hR7 (by have := hg142; omega)) ?_
        exact ow_nil ⟨rfl, rfl, a145, a148, c149, Iq, hleq, frL_set rfl rfl, hs, (fun h => khR146 h), pr25_1, pr25_7, pr25_17, pr25_23⟩
      · rintro L f w ⟨hL20, _⟩ hL ⟨a145, a148, c149, Iq, hleq, rfl, hs, khR146, pr25_1, pr25_7, pr25_17, pr25_23⟩
        replace hx2 := hx2.mono hleq
        replace hR7 := hR7.mono hleq
        refine ow_loadR (p := (w64 ((w64 ((w64 ((w64 ((Int.tmod (w64 (x4)) (w64 ((w64 (r1.2.1 - (min (w64 (1 + (w64 (Int.tmod x6 3)))) r1.2.1))) + 1))) + (w64 (Int.tdiv v0_t_21 (min (w64 (1 + (w64 (Int.tmod x5 3)))) r1.1))))) * r1.1)) + (Int.tmod (w64 (x3)) (w64 ((w64 (r1.1 - (min (w64 (1 + (w64 (Int.tmod x5 3)))) r1.1))) + 1))))) + (Int.tmod v0_t_21 (min (w64 (1 + (w64 (Int.tmod x5 3)))) r1.1)))).toNat * 1) (vs := [.int .i64 (at' r1.2.2 (w64 ((w64 ((w64 ((w64 ((Int.tmod (w64 (x4)) (w64 ((w64 (r1.2.1 - (min (w64 (1 + (w64 (Int.tmod x6 3)))) r1.2.1))) + 1))) + (w64 (Int.tdiv v0_t_21 (min (w64 (1 + (w64 (Int.tmod x5 3)))) r1.1))))) * r1.1)) + (Int.tmod (w64 (x3)) (w64 ((w64 (r1.1 - (min (w64 (1 + (w64 (Int.tmod x5 3)))) r1.1))) + 1))))) + (Int.tmod v0_t_21 (min (w64 (1 + (w64 (Int.tmod x5 3)))) r1.1)))))]) (v := .int .i64 (at' r1.2.2 (w64 ((w64 ((w64 ((w64 ((Int.tmod (w64 (x4)) (w64 ((w64 (r1.2.1 - (min (w64 (1 + (w64 (Int.tmod x6 3)))) r1.2.1))) + 1))) + (w64 (Int.tdiv v0_t_21 (min (w64 (1 + (w64 (Int.tmod x5 3)))) r1.1))))) * r1.1)) + (Int.tmod (w64 (x3)) (w64 ((w64 (r1.1 - (min (w64 (1 + (w64 (Int.tmod x5 3)))) r1.1))) + 1))))) + (Int.tmod v0_t_21 (min (w64 (1 + (w64 (Int.tmod x5 3)))) r1.1)))))) hs hR7 (frL_get rfl hL20) ty3 (flat_at (enc := e64) (sz := 1) (fun _ => rfl) r1.2.2 (w64 ((w64 ((w64 ((w64 ((Int.tmod (w64 (x4)) (w64 ((w64 (r1.2.1 - (min (w64 (1 + (w64 (Int.tmod x6 3)))) r1.2.1))) + 1))) + (w64 (Int.tdiv v0_t_21 (min (w64 (1 + (w64 (Int.tmod x5 3)))) r1.1))))) * r1.1)) + (Int.tmod (w64 (x3)) (w64 ((w64 (r1.1 - (min (w64 (1 + (w64 (Int.tmod x5 3)))) r1.1))) + 1))))) + (Int.tmod v0_t_21 (min (w64 (1 + (w64 (Int.tmod x5 3)))) r1.1)))) hg142.1 hg142.2 0 1 (by decide)) rfl rfl ?_
        exact ow_nil ⟨rfl, rfl, a145, a148, c149, Iq, hleq, frL_set rfl rfl, hs, (fun h => khR146 h), pr25_1, pr25_7, pr25_17, pr25_23⟩
      · rintro L f w ⟨hL21, _⟩ hL ⟨a145, a148, c149, Iq, hleq, rfl, hs, khR146, pr25_1, pr25_7, pr25_17, pr25_23⟩
        replace hx2 := hx2.mono hleq
        replace hR7 := hR7.mono hleq
        refine ow_buildSlice (vp := [(0, .int .i64 (at' r1.2.2 (w64 ((w64 ((w64 ((w64 ((Int.tmod (w64 (x4)) (w64 ((w64 (r1.2.1 - (min (w64 (1 + (w64 (Int.tmod x6 3)))) r1.2.1))) + 1))) + (w64 (Int.tdiv v0_t_21 (min (w64 (1 + (w64 (Int.tmod x5 3)))) r1.1))))) * r1.1)) + (Int.tmod (w64 (x3)) (w64 ((w64 (r1.1 - (min (w64 (1 + (w64 (Int.tmod x5 3)))) r1.1))) + 1))))) + (Int.tmod v0_t_21 (min (w64 (1 + (w64 (Int.tmod x5 3)))) r1.1))))))]) (cs := [.int .i64 (at' r1.2.2 (w64 ((w64 ((w64 ((w64 ((Int.tmod (w64 (x4)) (w64 ((w64 (r1.2.1 - (min (w64 (1 + (w64 (Int.tmod x6 3)))) r1.2.1))) + 1))) + (w64 (Int.tdiv v0_t_21 (min (w64 (1 + (w64 (Int.tmod x5 3)))) r1.1))))) * r1.1)) + (Int.tmod (w64 (x3)) (w64 ((w64 (r1.1 - (min (w64 (1 + (w64 (Int.tmod x5 3)))) r1.1))) + 1))))) + (Int.tmod v0_t_21 (min (w64 (1 + (w64 (Int.tmod x5 3)))) r1.1)))))]) hs sl24 ty3 rfl ⟨rfl, (frL_get rfl hL21), trivial⟩ (by decide) rfl (by decide) ?_
        clear hs; intro a145 J143 w hle144 hs hR146
        replace hx2 := hx2.mono hle144
        replace hR7 := hR7.mono hle144
        replace hR146 : Rs J143 1 a145 [(at' r1.2.2 (w64 ((w64 ((w64 ((w64 ((Int.tmod (w64 (x4)) (w64 ((w64 (r1.2.1 - (min (w64 (1 + (w64 (Int.tmod x6 3)))) r1.2.1))) + 1))) + (w64 (Int.tdiv v0_t_21 (min (w64 (1 + (w64 (Int.tmod x5 3)))) r1.1))))) * r1.1)) + (Int.tmod (w64 (x3)) (w64 ((w64 (r1.1 - (min (w64 (1 + (w64 (Int.tmod x5 3)))) r1.1))) + 1))))) + (Int.tmod v0_t_21 (min (w64 (1 + (w64 (Int.tmod x5 3)))) r1.1)))))].length 1 ([(at' r1.2.2 (w64 ((w64 ((w64 ((w64 ((Int.tmod (w64 (x4)) (w64 ((w64 (r1.2.1 - (min (w64 (1 + (w64 (Int.tmod x6 3)))) r1.2.1))) + 1))) + (w64 (Int.tdiv v0_t_21 (min (w64 (1 + (w64 (Int.tmod x5 3)))) r1.1))))) * r1.1)) + (Int.tmod (w64 (x3)) (w64 ((w64 (r1.1 - (min (w64 (1 + (w64 (Int.tmod x5 3)))) r1.1))) + 1))))) + (Int.tmod v0_t_21 (min (w64 (1 + (w64 (Int.tmod x5 3)))) r1.1)))))].flatMap e64) := hR146
        exact ow_nil ⟨rfl, rfl, a145, a148, c149, J143, (hleq.trans hle144), (Eq.trans (frL_setG (i := 22) rfl rfl) (rfl)), hs, (fun _ => hR146), pr25_1, pr25_7, pr25_17, pr25_23⟩
      · rintro L f w ⟨hL1, hL22, _⟩ hL ⟨a145, a148, c149, Iq, hleq, rfl, hs, khR146, pr25_1, pr25_7, pr25_17, pr25_23⟩
        replace hx2 := hx2.mono hleq
        replace hR7 := hR7.mono hleq
        have hR146 := khR146 hL22
        replace hs := hs.eqv (k := 0) rfl ((rL_f hL (rL_n)))
        replace hs := hs.eqv (k := 1) rfl ((rL_f (show L 25 = false from pfalse pr25_23 hL) (rfl)))
        refine ow_appendT (k := 0) (enc := e64) (X := v0_o_nb_r11_2) (Y := [(at' r1.2.2 (w64 ((w64 ((w64 ((w64 ((Int.tmod (w64 (x4)) (w64 ((w64 (r1.2.1 - (min (w64 (1 + (w64 (Int.tmod x6 3)))) r1.2.1))) + 1))) + (w64 (Int.tdiv v0_t_21 (min (w64 (1 + (w64 (Int.tmod x5 3)))) r1.1))))) * r1.1)) + (Int.tmod (w64 (x3)) (w64 ((w64 (r1.1 - (min (w64 (1 + (w64 (Int.tmod x5 3)))) r1.1))) + 1))))) + (Int.tmod v0_t_21 (min (w64 (1 + (w64 (Int.tmod x5 3)))) r1.1)))))]) hs rfl sl24 ty3 el3 rfl (frL_get rfl hL1) (frL_get rfl hL22) hR146 (fun _ => rfl) hg147 (by decide) ?_
        clear hs; intro a148 c149 w hs
        replace hs := hs.eqv (k := 1) rfl (Eq.symm (a := rL [(25, blk b10 28 [.int .i64 (min (w64 (1 + (w64 (Int.tmod x5 3)))) r1.1), .int .i64 (min (w64 (1 + (w64 (Int.tmod x6 3)))) r1.2.1), .slice a148 ((v0_o_nb_r11_2 ++ [(at' r1.2.2 (w64 ((w64 ((w64 ((w64 ((Int.tmod (w64 (x4)) (w64 ((w64 (r1.2.1 - (min (w64 (1 + (w64 (Int.tmod x6 3)))) r1.2.1))) + 1))) + (w64 (Int.tdiv v0_t_21 (min (w64 (1 + (w64 (Int.tmod x5 3)))) r1.1))))) * r1.1)) + (Int.tmod (w64 (x3)) (w64 ((w64 (r1.1 - (min (w64 (1 + (w64 (Int.tmod x5 3)))) r1.1))) + 1))))) + (Int.tmod v0_t_21 (min (w64 (1 + (w64 (Int.tmod x5 3)))) r1.1)))))]).length) c149])] (blk b10 28 [.int .i64 (min (w64 (1 + (w64 (Int.tmod x5 3)))) r1.1), .int .i64 (min (w64 (1 + (w64 (Int.tmod x6 3)))) r1.2.1), .slice a_o_nb_r11_2 v0_o_nb_r11_2.length c_o_nb_r11_2]) (setL L 23)) (((rL_f (L := setL L 23) (show L 25 = false from pfalse pr25_23 hL) (rfl)))))
        exact ow_nil ⟨rfl, rfl, a145, a148, c149, Iq, hleq, (Eq.trans (frL_setG (i := 23) rfl rfl) (rfl)), hs, (fun h => khR146 h), pr25_1, pr25_7, pr25_17, (fun _ => rfl)⟩
      · rintro L f w ⟨hL0, hL1, hL2, hL3, hL4, hL5, hL6, hL7, hL8, hL9, hL10, hL11, hL12, hL13, hL14, hL15, hL16, hL17, hL18, hL19, hL20, hL21, hL22, hL23, _⟩ hL ⟨a145, a148, c149, Iq, hleq, rfl, hs, khR146, pr25_1, pr25_7, pr25_17, pr25_23⟩
        replace hx2 := hx2.mono hleq
        replace hR7 := hR7.mono hleq
        have hR146 := khR146 hL22
        refine ow_field (b := b10) (o := 0) fl28_2 ht18_L0 ?_
        exact ow_nil ⟨rfl, rfl, a145, a148, c149, Iq, hleq, frL_set rfl rfl, hs, (fun h => khR146 h), pr25_1, pr25_7, pr25_17, pr25_23⟩
      · rintro L f w ⟨hL24, hL23, _, hL0, hL1, hL2, hL3, hL4, hL5, hL6, hL7, hL8, hL9, hL10, hL11, hL12, hL13, hL14, hL15, hL16, hL17, hL18, hL19, hL20, hL21, hL22, _, _⟩ hL ⟨a145, a148, c149, Iq, hleq, rfl, hs, khR146, pr25_1, pr25_7, pr25_17, pr25_23⟩
        replace hx2 := hx2.mono hleq
        replace hR7 := hR7.mono hleq
        have hR146 := khR146 hL22
        replace hs := hs.eqv (k := 1) rfl ((rL_f hL (rL_n)))
        refine ow_store (k := 1) (vs := [.slice a148 ((v0_o_nb_r11_2 ++ [(at' r1.2.2 (w64 ((w64 ((w64 ((w64 ((Int.tmod (w64 (x4)) (w64 ((w64 (r1.2.1 - (min (w64 (1 + (w64 (Int.tmod x6 3)))) r1.2.1))) + 1))) + (w64 (Int.tdiv v0_t_21 (min (w64 (1 + (w64 (Int.tmod x5 3)))) r1.1))))) * r1.1)) + (Int.tmod (w64 (x3)) (w64 ((w64 (r1.1 - (min (w64 (1 + (w64 (Int.tmod x5 3)))) r1.1))) + 1))))) + (Int.tmod v0_t_21 (min (w64 (1 + (w64 (Int.tmod x5 3)))) r1.1)))))]).length) c149]) (cs' := [.int .i64 (min (w64 (1 + (w64 (Int.tmod x5 3)))) r1.1), .int .i64 (min (w64 (1 + (w64 (Int.tmod x6 3)))) r1.2.1), .slice a148 ((v0_o_nb_r11_2 ++ [(at' r1.2.2 (w64 ((w64 ((w64 ((w64 ((Int.tmod (w64 (x4)) (w64 ((w64 (r1.2.1 - (min (w64 (1 + (w64 (Int.tmod x6 3)))) r1.2.1))) + 1))) + (w64 (Int.tdiv v0_t_21 (min (w64 (1 + (w64 (Int.tmod x5 3)))) r1.1))))) * r1.1)) + (Int.tmod (w64 (x3)) (w64 ((w64 (r1.1 - (min (w64 (1 + (w64 (Int.tmod x5 3)))) r1.1))) + 1))))) + (Int.tmod v0_t_21 (min (w64 (1 + (w64 (Int.tmod x5 3)))) r1.1)))))]).length) c149]) hs rfl (frL_get rfl hL24) (frL_get rfl hL23) ty24 rfl rfl (Nat.le_of_ble_eq_true rfl) rfl rfl ?_
        clear hs; intro w hs
        exact ow_nil ⟨rfl, rfl, a145, a148, c149, Iq, hleq, frL_no rfl, hs, (fun h => khR146 h), (fun _ => hL1), (fun _ => hL7), (fun _ => hL17), (fun _ => hL23)⟩
      rintro L f w hall ⟨a145, a148, c149, I151, hle150, rfl, hs, hR146, _, _, _, _⟩
      rw [frL_tt _ rfl hall]
      replace hs := hs.eqv (k := 0) rfl (rL_t (hall 23 (Nat.le_of_ble_eq_true rfl)))
      replace hs := hs.eqv (k := 1) rfl (rL_t (hall 25 (Nat.le_of_ble_eq_true rfl)))
      replace hR146 := hR146 (hall 22 (Nat.le_of_ble_eq_true rfl))
      replace hx2 := hx2.mono hle150
      replace hR7 := hR7.mono hle150
      refine blockK_n ?_
      refine seqK_n ?_
      refine cw_region ?_
      refine ow_v (x_move (v := .int .i64 v0_t_21) ht21_L0) rfl ?_
      refine ow_v (x_add (k := .i64) (a := v0_t_21) (b := 1) rfl rfl) rfl ?_
      refine ow_v (x_assign (v := .int .i64 (w64 (v0_t_21 + 1))) rfl) rfl ?_
      refine ow_nil ?_
      exact loopK_n ⟨k, Nat.lt_succ_self k, w64 (v0_t_21 + 1), v0_o_nb_r11_2 ++ [(at' r1.2.2 (w64 ((w64 ((w64 ((w64 ((Int.tmod (w64 (x4)) (w64 ((w64 (r1.2.1 - (min (w64 (1 + (w64 (Int.tmod x6 3)))) r1.2.1))) + 1))) + (w64 (Int.tdiv v0_t_21 (min (w64 (1 + (w64 (Int.tmod x5 3)))) r1.1))))) * r1.1)) + (Int.tmod (w64 (x3)) (w64 ((w64 (r1.1 - (min (w64 (1 + (w64 (Int.tmod x5 3)))) r1.1))) + 1))))) + (Int.tmod v0_t_21 (min (w64 (1 + (w64 (Int.tmod x5 3)))) r1.1)))))], a148, c149, I151, rfl, (hle138.trans hle150), hm, hs, ht7_L0, ht16_L0, ht17_L0, ht18_L0, ht19_L0, ht20_L0, rfl⟩
    · rw [if_neg hc139] at hm
      refine cw_if_f rfl (decide_eq_false hc139) ?_
      refine cw_exit ?_
      refine seqK_x ?_
      refine loopK_x ?_
      refine blockK_hit ?_
      obtain rfl := Option.some.inj hm
      refine joinK_n ⟨a_o_nb_r11_2, c_o_nb_r11_2, I137, rfl, hle138, hs, ht7_L0, ht16_L0, ht17_L0, ht18_L0, ht19_L0, ht20_L0⟩
  · clear hm hs
    rintro f ds w ⟨a_o_nb_r11_2, c_o_nb_r11_2, I110, rfl, hle152, hs, ht7_o108, ht16_o108, ht17_o108, ht18_o108, ht19_o108, ht20_o108⟩
    replace hm := hq109
    replace hx2 := hx2.mono hle152
    replace hR7 := hR7.mono hle152
    refine cw_seq ?_
    refine cw_region ?_
    refine ow_v (x_move (v := .int .u16 x7) ht7_o108) rfl ?_
    refine ow_v (x_rem (k := .u16) (a := x7) (b := 1001) rfl rfl (by decide)) rfl ?_
    refine ow_v (x_conv (a := (Int.tmod x7 1001)) it23 it3 rfl) rfl ?_
    refine ow_v (x_assign (v := .int .i64 (w64 (Int.tmod x7 1001))) rfl) rfl ?_
    refine ow_nil ?_
    refine seqK_n ?_
    refine cw_seq ?_
    refine cw_region ?_
    refine ow_load (k := 2) (vs := [.int .i64 r1.1, .int .i64 r1.2.1, .slice a5 r1.2.2.length c6]) (v := .agg #[.int .i64 r1.1, .int .i64 r1.2.1, .slice a5 r1.2.2.length c6]) hs rfl ht17_o108 ty26 rfl rfl rfl ?_
    refine ow_load (k := 1) (vs := [.int .i64 (min (w64 (1 + (w64 (Int.tmod x5 3)))) r1.1), .int .i64 (min (w64 (1 + (w64 (Int.tmod x6 3)))) r1.2.1), .slice a_o_nb_r11_2 o108.length c_o_nb_r11_2]) (v := .agg #[.int .i64 (min (w64 (1 + (w64 (Int.tmod x5 3)))) r1.1), .int .i64 (min (w64 (1 + (w64 (Int.tmod x6 3)))) r1.2.1), .slice a_o_nb_r11_2 o108.length c_o_nb_r11_2]) hs rfl ht18_o108 ty28 rfl rfl rfl ?_
    refine ow_v (x_move (v := .int .i64 (w64 (Int.tmod x7 1001))) rfl) rfl ?_
    obtain ⟨J153, hle154, hR155, hs⟩ := hs.freezeO
    replace hx2 := hx2.mono hle154
    replace hR7 := hR7.mono hle154
    obtain ⟨r156, hr157, hm2⟩ := bind_some hm
    replace hm := hm2; clear hm2
    refine ow_call (fi := []) (vs := [.agg #[.int .i64 r1.1, .int .i64 r1.2.1, .slice a5 r1.2.2.length c6], .agg #[.int .i64 (min (w64 (1 + (w64 (Int.tmod x5 3)))) r1.1), .int .i64 (min (w64 (1 + (w64 (Int.tmod x6 3)))) r1.2.1), .slice a_o_nb_r11_2 o108.length c_o_nb_r11_2], .int .i64 (w64 (Int.tmod x7 1001))]) (ca := []) rfl ⟨rfl, rfl, rfl, trivial⟩ en5 (f5_ok _ _ _ _ _ _ _ hr157 hs hR7 hR155) ?_
    clear hs; rintro _ w ⟨J158, a160, c161, a163, c164, hle159, hs, rfl, hR162, hR165⟩
    replace hx2 := hx2.mono hle159
    replace hR7 := hR7.mono hle159
    replace hR155 := hR155.mono hle159
    refine ow_v (x_move (v := .tuple #[.agg #[.slice a160 r156.1.length c161, .slice a163 r156.2.1.length c164], .int .i64 r156.2.2]) rfl) rfl ?_
    refine ow_v (x_extract (v := .agg #[.slice a160 r156.1.length c161, .slice a163 r156.2.1.length c164]) rfl rfl) rfl ?_
    refine ow_v (x_extract (v := .int .i64 r156.2.2) rfl rfl) rfl ?_
    refine ow_alloc hs ty32 rfl ?_
    clear hs; intro b166 w hs
    refine ow_store (k := 0) (vs := [.slice a160 r156.1.length c161, .slice a163 r156.2.1.length c164]) (cs' := [.slice a160 r156.1.length c161, .slice a163 r156.2.1.length c164]) hs rfl rfl rfl ty32 rfl rfl (Nat.le_of_ble_eq_true rfl) rfl rfl ?_
    clear hs; intro w hs
    refine ow_v (x_assign (v := .int .i64 r156.2.2) rfl) rfl ?_
    refine ow_nil ?_
    refine seqK_n ?_
    refine cw_seq ?_
    refine cw_seq ?_
    refine cw_region ?_
    refine ow_v (x_move (v := .int .i64 r156.2.2) rfl) rfl ?_
    refine ow_v (x_neqD (k := .i64) (a := r156.2.2) (b := 0) rfl rfl) rfl ?_
    refine ow_v (x_move (v := .bool (decide (¬ (r156.2.2 = 0)))) rfl) rfl ?_
    obtain ⟨b168, hmb168, hm2⟩ := bind_some hm
    replace hm := hm2; clear hm2
    refine ow_joinN 7 (fun f ds w => ∃ (I169 : Im), ds = [] ∧ Im.le J158 I169 ∧ Sat I169 (blk b166 32 [.slice a160 r156.1.length c161, .slice a163 r156.2.1.length c164] :: blk b10 28 [.int .i64 (min (w64 (1 + (w64 (Int.tmod x5 3)))) r1.1), .int .i64 (min (w64 (1 + (w64 (Int.tmod x6 3)))) r1.2.1), .slice a_o_nb_r11_2 o108.length c_o_nb_r11_2] :: blk b8 26 [.int .i64 r1.1, .int .i64 r1.2.1, .slice a5 r1.2.2.length c6] :: F) w ∧ f 132 = .bool b168 ∧ f 16 = .bool false ∧ f 17 = .pointer (some ⟨b8, 0, none⟩) ∧ f 18 = .pointer (some ⟨b10, 0, none⟩) ∧ f 19 = .int .i64 (Int.tmod (w64 (x3)) (w64 ((w64 (r1.1 - (min (w64 (1 + (w64 (Int.tmod x5 3)))) r1.1))) + 1))) ∧ f 20 = .int .i64 (Int.tmod (w64 (x4)) (w64 ((w64 (r1.2.1 - (min (w64 (1 + (w64 (Int.tmod x6 3)))) r1.2.1))) + 1))) ∧ f 22 = .int .i64 (w64 (Int.tmod x7 1001)) ∧ f 23 = .pointer (some ⟨b166, 0, none⟩)) ?_ ?_
    · by_cases hc171 : ¬ (r156.2.2 = 0)
      · rw [if_pos hc171] at hmb168
        refine ow_no (b := true) (yl_of rfl rfl (decide_eq_true hc171)) rfl ?_
        refine ow_no (b := true) (yl_of rfl rfl (decide_eq_true hc171)) rfl ?_
        refine ow_no (b := true) (yl_of rfl rfl (decide_eq_true hc171)) rfl ?_
        refine ow_no (b := true) (yl_of rfl rfl (decide_eq_true hc171)) rfl ?_
        refine ow_no (b := true) (yl_of rfl rfl (decide_eq_true hc171)) rfl ?_
        refine ow_no (b := true) (yl_of rfl rfl (decide_eq_true hc171)) rfl ?_
        refine ow_v (x_pick_t (v := .bool true) ((rfl : ev _ _ _ = _).trans (congrArg Value.bool (decide_eq_true hc171))) rfl) rfl ?_
        refine ow_nil ?_
        obtain rfl := Option.some.inj hmb168
        exact ⟨J158, rfl, Im.le.refl _, hs, rfl, ht16_o108, ht17_o108, ht18_o108, ht19_o108, ht20_o108, rfl, rfl⟩
      · rw [if_neg hc171] at hmb168
        refine ow_go (yl_of rfl rfl (decide_eq_false hc171)) ?_
        refine ow_load (k := 2) (vs := [.int .i64 r1.1, .int .i64 r1.2.1, .slice a5 r1.2.2.length c6]) (v := .agg #[.int .i64 r1.1, .int .i64 r1.2.1, .slice a5 r1.2.2.length c6]) hs rfl ht17_o108 ty26 rfl rfl rfl ?_
        refine ow_go (yl_of rfl rfl (decide_eq_false hc171)) ?_
        refine ow_load (k := 1) (vs := [.int .i64 (min (w64 (1 + (w64 (Int.tmod x5 3)))) r1.1), .int .i64 (min (w64 (1 + (w64 (Int.tmod x6 3)))) r1.2.1), .slice a_o_nb_r11_2 o108.length c_o_nb_r11_2]) (v := .agg #[.int .i64 (min (w64 (1 + (w64 (Int.tmod x5 3)))) r1.1), .int .i64 (min (w64 (1 + (w64 (Int.tmod x6 3)))) r1.2.1), .slice a_o_nb_r11_2 o108.length c_o_nb_r11_2]) hs rfl ht18_o108 ty28 rfl rfl rfl ?_
        refine ow_go (yl_of rfl rfl (decide_eq_false hc171)) ?_
        refine ow_v (x_move (v := .int .i64 (w64 (Int.tmod x7 1001))) rfl) rfl ?_
        refine ow_go (yl_of rfl rfl (decide_eq_false hc171)) ?_
        refine ow_load (k := 0) (vs := [.slice a160 r156.1.length c161, .slice a163 r156.2.1.length c164]) (v := .agg #[.slice a160 r156.1.length c161, .slice a163 r156.2.1.length c164]) hs rfl rfl ty32 rfl rfl rfl ?_
        refine ow_go (yl_of rfl rfl (decide_eq_false hc171)) ?_
        obtain ⟨r172, hr173, hmb1682⟩ := bind_some hmb168
        replace hmb168 := hmb1682; clear hmb1682
        refine ow_call (fi := []) (vs := [.agg #[.int .i64 r1.1, .int .i64 r1.2.1, .slice a5 r1.2.2.length c6], .agg #[.int .i64 (min (w64 (1 + (w64 (Int.tmod x5 3)))) r1.1), .int .i64 (min (w64 (1 + (w64 (Int.tmod x6 3)))) r1.2.1), .slice a_o_nb_r11_2 o108.length c_o_nb_r11_2], .int .i64 (w64 (Int.tmod x7 1001)), .agg #[.slice a160 r156.1.length c161, .slice a163 r156.2.1.length c164]]) (ca := []) rfl ⟨rfl, rfl, rfl, rfl, trivial⟩ en6 (f6_ok _ _ _ _ _ _ _ _ _ hr173 hs hR7 hR155 hR162 hR165) ?_
        clear hs; rintro _ w ⟨J174, hle175, hs, rfl⟩
        replace hx2 := hx2.mono hle175
        replace hR7 := hR7.mono hle175
        replace hR155 := hR155.mono hle175
        replace hR162 := hR162.mono hle175
        replace hR165 := hR165.mono hle175
        refine ow_go (yl_of rfl rfl (decide_eq_false hc171)) ?_
        refine ow_v (x_neqD (k := .i64) (a := r172) (b := 0) rfl rfl) rfl ?_
        refine ow_v (x_pick_f (v := .bool (decide (¬ (r172 = 0)))) ((rfl : ev _ _ _ = _).trans (congrArg Value.bool (decide_eq_false hc171))) rfl) rfl ?_
        refine ow_nil ?_
        obtain rfl := Option.some.inj hmb168
        exact ⟨J174, rfl, hle175, hs, rfl, ht16_o108, ht17_o108, ht18_o108, ht19_o108, ht20_o108, rfl, rfl⟩
    · clear hmb168 hs
      rintro f ds w ⟨I169, rfl, hle170, hs, htbb168, ht16_b168, ht17_b168, ht18_b168, ht19_b168, ht20_b168, ht22_b168, ht23_b168⟩
      replace hx2 := hx2.mono hle170
      replace hR7 := hR7.mono hle170
      replace hR155 := hR155.mono hle170
      replace hR162 := hR162.mono hle170
      replace hR165 := hR165.mono hle170
      refine ow_nil ?_
      refine seqK_n ?_
      by_cases hc176 : b168 = true
      · rw [if_pos hc176] at hm
        refine cw_if_t htbb168 hc176 ?_
        refine cw_seq ?_
        refine cw_region ?_
        refine ow_v (x_assign (v := .bool false) rfl) rfl ?_
        refine ow_nil ?_
        refine seqK_n ?_
        refine cw_ret ?_
        refine seqK_r ?_
        refine ret_ok (rs := [.tmp 16]) (vs := [.bool false]) (.inr rfl) rfl ⟨rfl, trivial⟩ ?_
        obtain rfl := Option.some.inj hm
        replace hs := hs.erase 0
        replace hs := hs.erase 0
        replace hs := hs.erase 0
        exact ⟨I169, (((((hle4.trans hle14).trans hle152).trans hle154).trans hle159).trans hle170), hs, rfl⟩
      · rw [if_neg hc176] at hm
        refine cw_if_f htbb168 (Bool.eq_false_iff.2 hc176) ?_
        refine cw_skip ?_
        refine seqK_n ?_
        refine cw_seq ?_
        refine cw_region ?_
        refine ow_v (x_assign (v := .slice none 0 0) rfl) rfl ?_
        refine ow_v (x_assign (v := .slice none 0 0) rfl) rfl ?_
        refine ow_nil ?_
        refine seqK_n ?_
        refine cw_seq ?_
        refine cw_region ?_
        refine ow_v (x_assign (v := .bool false) rfl) rfl ?_
        refine ow_nil ?_
        refine seqK_n ?_
        replace hs := hs.pushNil 40 5
        obtain ⟨o14815, hm2, hq14816⟩ := bind_some hm
        replace hm := hm2; clear hm2
        refine cw_join (fun f ds w => ∃ (a_o_nt_25 : Option Addr) (c_o_nt_25 : Nat) (I14817 : Im), ds = [] ∧ Im.le I169 I14817 ∧ Sat I14817 (osl 40 5 a_o_nt_25 o14815.2.length c_o_nt_25 (o14815.2.flatMap enc40) :: blk b166 32 [.slice a160 r156.1.length c161, .slice a163 r156.2.1.length c164] :: blk b10 28 [.int .i64 (min (w64 (1 + (w64 (Int.tmod x5 3)))) r1.1), .int .i64 (min (w64 (1 + (w64 (Int.tmod x6 3)))) r1.2.1), .slice a_o_nb_r11_2 o108.length c_o_nb_r11_2] :: blk b8 26 [.int .i64 r1.1, .int .i64 r1.2.1, .slice a5 r1.2.2.length c6] :: F) w ∧ f 16 = .bool false ∧ f 23 = .pointer (some ⟨b166, 0, none⟩) ∧ f 25 = .slice a_o_nt_25 o14815.2.length c_o_nt_25 ∧ f 26 = .slice none 0 0 ∧ f 27 = .bool o14815.1) ?_ ?_
        · skip
          refine cw_seq ?_
          refine cw_region ?_
          refine ow_v (x_assign (v := .int .i64 0) rfl) rfl ?_
          refine ow_nil ?_
          refine seqK_n ?_
          refine cw_block ?_
          refine cw_loop (S := fun k f ds w => ∃ (v3_t_27 : Bool) (v3_t_28 : Int) (v3_o_nt_25 : List (Int × Int × Int × Int × Int)), ∃ (a_o_nt_25 : Option Addr) (c_o_nt_25 : Nat) (I18600 : Im), ds = [] ∧ Im.le I169 I18600 ∧ f3_l1 x3 x4 x5 x6 x7 r1 o108 k v3_t_27 v3_t_28 v3_o_nt_25 = some o14815 ∧ Sat I18600 (osl 40 5 a_o_nt_25 v3_o_nt_25.length c_o_nt_25 (v3_o_nt_25.flatMap enc40) :: blk b166 32 [.slice a160 r156.1.length c161, .slice a163 r156.2.1.length c164] :: blk b10 28 [.int .i64 (min (w64 (1 + (w64 (Int.tmod x5 3)))) r1.1), .int .i64 (min (w64 (1 + (w64 (Int.tmod x6 3)))) r1.2.1), .slice a_o_nb_r11_2 o108.length c_o_nb_r11_2] :: blk b8 26 [.int .i64 r1.1, .int .i64 r1.2.1, .slice a5 r1.2.2.length c6] :: F) w ∧ f 16 = .bool false ∧ f 17 = .pointer (some ⟨b8, 0, none⟩) ∧ f 18 = .pointer (some ⟨b10, 0, none⟩) ∧ f 19 = .int .i64 (Int.tmod (w64 (x3)) (w64 ((w64 (r1.1 - (min (w64 (1 + (w64 (Int.tmod x5 3)))) r1.1))) + 1))) ∧ f 20 = .int .i64 (Int.tmod (w64 (x4)) (w64 ((w64 (r1.2.1 - (min (w64 (1 + (w64 (Int.tmod x6 3)))) r1.2.1))) + 1))) ∧ f 22 = .int .i64 (w64 (Int.tmod x7 1001)) ∧ f 23 = .pointer (some ⟨b166, 0, none⟩) ∧ f 25 = .slice a_o_nt_25 v3_o_nt_25.length c_o_nt_25 ∧ f 26 = .slice none 0 0 ∧ f 27 = .bool v3_t_27 ∧ f 28 = .int .i64 v3_t_28) ?_ (k := FUEL) ⟨false, 0, ([] : List (Int × Int × Int × Int × Int)), none, 0, I169, rfl, Im.le.refl _, hm, hs, ht16_b168, ht17_b168, ht18_b168, ht19_b168, ht20_b168, ht22_b168, ht23_b168, rfl, rfl, rfl, rfl⟩
          clear hm hs
          rintro k f ds w ⟨v3_t_27, v3_t_28, v3_o_nt_25, a_o_nt_25, c_o_nt_25, I18600, rfl, hle18601, hm, hs, ht16_L1, ht17_L1, ht18_L1, ht19_L1, ht20_L1, ht22_L1, ht23_L1, ht25_L1, ht26_L1, ht27_L1, ht28_L1⟩
          replace hx2 := hx2.mono hle18601
          replace hR7 := hR7.mono hle18601
          replace hR155 := hR155.mono hle18601
          replace hR162 := hR162.mono hle18601
          replace hR165 := hR165.mono hle18601
          rcases k with _ | k
          · unfold f3_l1 at hm; cases hm
          unfold f3_l1 at hm
          refine cw_seq ?_
          refine cw_seq ?_
          refine cw_region ?_
          refine ow_v (x_move (v := .int .i64 v3_t_28) ht28_L1) rfl ?_
          refine ow_field (b := b8) (o := 0) fl26_1 ht17_L1 ?_
          refine ow_load (k := 3) (vs := [.int .i64 r1.2.1]) (v := .int .i64 r1.2.1) hs rfl rfl ty3 rfl rfl rfl ?_
          refine ow_v (x_lss (k := .i64) (a := v3_t_28) (b := r1.2.1) rfl rfl) rfl ?_
          refine ow_nil ?_
          refine seqK_n ?_
          by_cases hc18602 : v3_t_28 < r1.2.1
          · rw [if_pos hc18602] at hm
            refine cw_if_t rfl (decide_eq_true hc18602) ?_
            refine cw_skip ?_
            refine seqK_n ?_
            obtain ⟨o19554, hm2, hq19555⟩ := bind_some hm
            replace hm := hm2; clear hm2
            refine cw_join (fun f ds w => ∃ (a_o_nt_25 : Option Addr) (c_o_nt_25 : Nat) (I19556 : Im), ds = [] ∧ Im.le I18600 I19556 ∧ Sat I19556 (osl 40 5 a_o_nt_25 o19554.2.length c_o_nt_25 (o19554.2.flatMap enc40) :: blk b166 32 [.slice a160 r156.1.length c161, .slice a163 r156.2.1.length c164] :: blk b10 28 [.int .i64 (min (w64 (1 + (w64 (Int.tmod x5 3)))) r1.1), .int .i64 (min (w64 (1 + (w64 (Int.tmod x6 3)))) r1.2.1), .slice a_o_nb_r11_2 o108.length c_o_nb_r11_2] :: blk b8 26 [.int .i64 r1.1, .int .i64 r1.2.1, .slice a5 r1.2.2.length c6] :: F) w ∧ f 16 = .bool false ∧ f 17 = .pointer (some ⟨b8, 0, none⟩) ∧ f 18 = .pointer (some ⟨b10, 0, none⟩) ∧ f 19 = .int .i64 (Int.tmod (w64 (x3)) (w64 ((w64 (r1.1 - (min (w64 (1 + (w64 (Int.tmod x5 3)))) r1.1))) + 1))) ∧ f 20 = .int .i64 (Int.tmod (w64 (x4)) (w64 ((w64 (r1.2.1 - (min (w64 (1 + (w64 (Int.tmod x6 3)))) r1.2.1))) + 1))) ∧ f 22 = .int .i64 (w64 (Int.tmod x7 1001)) ∧ f 23 = .pointer (some ⟨b166, 0, none⟩) ∧ f 25 = .slice a_o_nt_25 o19554.2.length c_o_nt_25 ∧ f 26 = .slice none 0 0 ∧ f 27 = .bool o19554.1 ∧ f 28 = .int .i64 v3_t_28) ?_ ?_
            · skip
              refine cw_block ?_
              refine cw_seq ?_
              refine cw_region ?_
              refine ow_v (x_assign (v := .int .i64 0) rfl) rfl ?_
              refine ow_nil ?_
              refine seqK_n ?_
              refine cw_block ?_
              refine cw_loop (S := fun k f ds w => ∃ (v2_t_27 : Bool) (v2_t_29 : Int) (v2_o_nt_25 : List (Int × Int × Int × Int × Int)), ∃ (a_o_nt_25 : Option Addr) (c_o_nt_25 : Nat) (I20191 : Im), ds = [] ∧ Im.le I18600 I20191 ∧ f3_l2 x3 x4 x5 x6 x7 r1 o108 v3_t_28 k v2_t_27 v2_t_29 v2_o_nt_25 = some o19554 ∧ Sat I20191 (osl 40 5 a_o_nt_25 v2_o_nt_25.length c_o_nt_25 (v2_o_nt_25.flatMap enc40) :: blk b166 32 [.slice a160 r156.1.length c161, .slice a163 r156.2.1.length c164] :: blk b10 28 [.int .i64 (min (w64 (1 + (w64 (Int.tmod x5 3)))) r1.1), .int .i64 (min (w64 (1 + (w64 (Int.tmod x6 3)))) r1.2.1), .slice a_o_nb_r11_2 o108.length c_o_nb_r11_2] :: blk b8 26 [.int .i64 r1.1, .int .i64 r1.2.1, .slice a5 r1.2.2.length c6] :: F) w ∧ f 16 = .bool false ∧ f 17 = .pointer (some ⟨b8, 0, none⟩) ∧ f 18 = .pointer (some ⟨b10, 0, none⟩) ∧ f 19 = .int .i64 (Int.tmod (w64 (x3)) (w64 ((w64 (r1.1 - (min (w64 (1 + (w64 (Int.tmod x5 3)))) r1.1))) + 1))) ∧ f 20 = .int .i64 (Int.tmod (w64 (x4)) (w64 ((w64 (r1.2.1 - (min (w64 (1 + (w64 (Int.tmod x6 3)))) r1.2.1))) + 1))) ∧ f 22 = .int .i64 (w64 (Int.tmod x7 1001)) ∧ f 23 = .pointer (some ⟨b166, 0, none⟩) ∧ f 25 = .slice a_o_nt_25 v2_o_nt_25.length c_o_nt_25 ∧ f 26 = .slice none 0 0 ∧ f 27 = .bool v2_t_27 ∧ f 28 = .int .i64 v3_t_28 ∧ f 29 = .int .i64 v2_t_29) ?_ (k := FUEL) ⟨v3_t_27, 0, v3_o_nt_25, a_o_nt_25, c_o_nt_25, I18600, rfl, Im.le.refl _, hm, hs, ht16_L1, ht17_L1, ht18_L1, ht19_L1, ht20_L1, ht22_L1, ht23_L1, ht25_L1, ht26_L1, ht27_L1, ht28_L1, rfl⟩
              clear hm hs
              rintro k f ds w ⟨v2_t_27, v2_t_29, v2_o_nt_25, a_o_nt_25, c_o_nt_25, I20191, rfl, hle20192, hm, hs, ht16_L2, ht17_L2, ht18_L2, ht19_L2, ht20_L2, ht22_L2, ht23_L2, ht25_L2, ht26_L2, ht27_L2, ht28_L2, ht29_L2⟩
              replace hx2 := hx2.mono hle20192
              replace hR7 := hR7.mono hle20192
              replace hR155 := hR155.mono hle20192
              replace hR162 := hR162.mono hle20192
              replace hR165 := hR165.mono hle20192
              rcases k with _ | k
              · unfold f3_l2 at hm; cases hm
              unfold f3_l2 at hm
              refine cw_seq ?_
              refine cw_seq ?_
              refine cw_region ?_
              refine ow_v (x_move (v := .int .i64 v2_t_29) ht29_L2) rfl ?_
              refine ow_field (b := b8) (o := 0) fl26_0 ht17_L2 ?_
              refine ow_load (k := 3) (vs := [.int .i64 r1.1]) (v := .int .i64 r1.1) hs rfl rfl ty3 rfl rfl rfl ?_
              refine ow_v (x_lss (k := .i64) (a := v2_t_29) (b := r1.1) rfl rfl) rfl ?_
              refine ow_nil ?_
              refine seqK_n ?_
              by_cases hc20193 : v2_t_29 < r1.1
              · rw [if_pos hc20193] at hm
                refine cw_if_t rfl (decide_eq_true hc20193) ?_
                refine cw_skip ?_
                refine seqK_n ?_
                obtain ⟨o20350, hm2, hq20351⟩ := bind_some hm
                replace hm := hm2; clear hm2
                refine cw_join (fun f ds w => ∃ (a_o_nt_25 : Option Addr) (c_o_nt_25 : Nat) (I20352 : Im), ds = [] ∧ Im.le I20191 I20352 ∧ Sat I20352 (osl 40 5 a_o_nt_25 o20350.2.length c_o_nt_25 (o20350.2.flatMap enc40) :: blk b166 32 [.slice a160 r156.1.length c161, .slice a163 r156.2.1.length c164] :: blk b10 28 [.int .i64 (min (w64 (1 + (w64 (Int.tmod x5 3)))) r1.1), .int .i64 (min (w64 (1 + (w64 (Int.tmod x6 3)))) r1.2.1), .slice a_o_nb_r11_2 o108.length c_o_nb_r11_2] :: blk b8 26 [.int .i64 r1.1, .int .i64 r1.2.1, .slice a5 r1.2.2.length c6] :: F) w ∧ f 16 = .bool false ∧ f 17 = .pointer (some ⟨b8, 0, none⟩) ∧ f 18 = .pointer (some ⟨b10, 0, none⟩) ∧ f 19 = .int .i64 (Int.tmod (w64 (x3)) (w64 ((w64 (r1.1 - (min (w64 (1 + (w64 (Int.tmod x5 3)))) r1.1))) + 1))) ∧ f 20 = .int .i64 (Int.tmod (w64 (x4)) (w64 ((w64 (r1.2.1 - (min (w64 (1 + (w64 (Int.tmod x6 3)))) r1.2.1))) + 1))) ∧ f 22 = .int .i64 (w64 (Int.tmod x7 1001)) ∧ f 23 = .pointer (some ⟨b166, 0, none⟩) ∧ f 25 = .slice a_o_nt_25 o20350.2.length c_o_nt_25 ∧ f 26 = .slice none 0 0 ∧ f 27 = .bool o20350.1 ∧ f 28 = .int .i64 v3_t_28 ∧ f 29 = .int .i64 v2_t_29) ?_ ?_
                · skip
                  refine cw_block ?_
                  refine cw_seq ?_
                  refine cw_region ?_
                  refine ow_v (x_assign (v := .int .i64 0) rfl) rfl ?_
                  refine ow_nil ?_
                  refine seqK_n ?_
                  obtain ⟨o20419, hm2, hq20420⟩ := bind_some hm
                  replace hm := hm2; clear hm2
                  refine cw_join (fun f ds w => ∃ (I20421 : Im), ds = [] ∧ Im.le I20191 I20421 ∧ Sat I20421 (osl 40 5 a_o_nt_25 v2_o_nt_25.length c_o_nt_25 (v2_o_nt_25.flatMap enc40) :: blk b166 32 [.slice a160 r156.1.length c161, .slice a163 r156.2.1.length c164] :: blk b10 28 [.int .i64 (min (w64 (1 + (w64 (Int.tmod x5 3)))) r1.1), .int .i64 (min (w64 (1 + (w64 (Int.tmod x6 3)))) r1.2.1), .slice a_o_nb_r11_2 o108.length c_o_nb_r11_2] :: blk b8 26 [.int .i64 r1.1, .int .i64 r1.2.1, .slice a5 r1.2.2.length c6] :: F) w ∧ f 16 = .bool false ∧ f 17 = .pointer (some ⟨b8, 0, none⟩) ∧ f 18 = .pointer (some ⟨b10, 0, none⟩) ∧ f 19 = .int .i64 (Int.tmod (w64 (x3)) (w64 ((w64 (r1.1 - (min (w64 (1 + (w64 (Int.tmod x5 3)))) r1.1))) + 1))) ∧ f 20 = .int .i64 (Int.tmod (w64 (x4)) (w64 ((w64 (r1.2.1 - (min (w64 (1 + (w64 (Int.tmod x6 3)))) r1.2.1))) + 1))) ∧ f 22 = .int .i64 (w64 (Int.tmod x7 1001)) ∧ f 23 = .pointer (some ⟨b166, 0, none⟩) ∧ f 25 = .slice a_o_nt_25 v2_o_nt_25.length c_o_nt_25 ∧ f 26 = .slice none 0 0 ∧ f 27 = .bool v2_t_27 ∧ f 28 = .int .i64 v3_t_28 ∧ f 29 = .int .i64 v2_t_29 ∧ f 30 = .int .i64 o20419) ?_ ?_
                  · skip
                    refine cw_seq ?_
                    refine cw_region ?_
                    refine ow_v (x_assign (v := .int .i64 0) rfl) rfl ?_
                    refine ow_nil ?_
                    refine seqK_n ?_
                    refine cw_block ?_
                    refine cw_loop (S := fun k f ds w => ∃ (v1_t_30 : Int) (v1_t_31 : Int), ∃ (I20466 : Im), ds = [] ∧ Im.le I20191 I20466 ∧ f3_l3 x5 x6 r1 o108 v3_t_28 v2_t_29 k v1_t_30 v1_t_31 = some o20419 ∧ Sat I20466 (osl 40 5 a_o_nt_25 v2_o_nt_25.length c_o_nt_25 (v2_o_nt_25.flatMap enc40) :: blk b166 32 [.slice a160 r156.1.length c161, .slice a163 r156.2.1.length c164] :: blk b10 28 [.int .i64 (min (w64 (1 + (w64 (Int.tmod x5 3)))) r1.1), .int .i64 (min (w64 (1 + (w64 (Int.tmod x6 3)))) r1.2.1), .slice a_o_nb_r11_2 o108.length c_o_nb_r11_2] :: blk b8 26 [.int .i64 r1.1, .int .i64 r1.2.1, .slice a5 r1.2.2.length c6] :: F) w ∧ f 16 = .bool false ∧ f 17 = .pointer (some ⟨b8, 0, none⟩) ∧ f 18 = .pointer (some ⟨b10, 0, none⟩) ∧ f 19 = .int .i64 (Int.tmod (w64 (x3)) (w64 ((w64 (r1.1 - (min (w64 (1 + (w64 (Int.tmod x5 3)))) r1.1))) + 1))) ∧ f 20 = .int .i64 (Int.tmod (w64 (x4)) (w64 ((w64 (r1.2.1 - (min (w64 (1 + (w64 (Int.tmod x6 3)))) r1.2.1))) + 1))) ∧ f 22 = .int .i64 (w64 (Int.tmod x7 1001)) ∧ f 23 = .pointer (some ⟨b166, 0, none⟩) ∧ f 25 = .slice a_o_nt_25 v2_o_nt_25.length c_o_nt_25 ∧ f 26 = .slice none 0 0 ∧ f 27 = .bool v2_t_27 ∧ f 28 = .int .i64 v3_t_28 ∧ f 29 = .int .i64 v2_t_29 ∧ f 30 = .int .i64 v1_t_30 ∧ f 31 = .int .i64 v1_t_31) ?_ (k := FUEL) ⟨0, 0, I20191, rfl, Im.le.refl _, hm, hs, ht16_L2, ht17_L2, ht18_L2, ht19_L2, ht20_L2, ht22_L2, ht23_L2, ht25_L2, ht26_L2, ht27_L2, ht28_L2, ht29_L2, rfl, rfl⟩
                    clear hm hs
                    rintro k f ds w ⟨v1_t_30, v1_t_31, I20466, rfl, hle20467, hm, hs, ht16_L3, ht17_L3, ht18_L3, ht19_L3, ht20_L3, ht22_L3, ht23_L3, ht25_L3, ht26_L3, ht27_L3, ht28_L3, ht29_L3, ht30_L3, ht31_L3⟩
                    replace hx2 := hx2.mono hle20467
                    replace hR7 := hR7.mono hle20467
                    replace hR155 := hR155.mono hle20467
                    replace hR162 := hR162.mono hle20467
                    replace hR165 := hR165.mono hle20467
                    rcases k with _ | k
                    · unfold f3_l3 at hm; cases hm
                    unfold f3_l3 at hm
                    refine cw_seq ?_
                    refine cw_seq ?_
                    refine cw_region ?_
                    refine ow_v (x_move (v := .int .i64 v1_t_31) ht31_L3) rfl ?_
                    refine ow_field (b := b10) (o := 0) fl28_0 ht18_L3 ?_
                    refine ow_load (k := 2) (vs := [.int .i64 (min (w64 (1 + (w64 (Int.tmod x5 3)))) r1.1)]) (v := .int .i64 (min (w64 (1 + (w64 (Int.tmod x5 3)))) r1.1)) hs rfl rfl ty3 rfl rfl rfl ?_
                    refine ow_field (b := b10) (o := 0) fl28_1 ht18_L3 ?_
                    refine ow_load (k := 2) (vs := [.int .i64 (min (w64 (1 + (w64 (Int.tmod x6 3)))) r1.2.1)]) (v := .int .i64 (min (w64 (1 + (w64 (Int.tmod x6 3)))) r1.2.1)) hs rfl rfl ty3 rfl rfl rfl ?_
                    refine ow_v (x_mul (k := .i64) (a := (min (w64 (1 + (w64 (Int.tmod x5 3)))) r1.1)) (b := (min (w64 (1 + (w64 (Int.tmod x6 3)))) r1.2.1)) rfl rfl) rfl ?_
                    refine ow_v (x_lss (k := .i64) (a := v1_t_31) (b := (w64 ((min (w64 (1 + (w64 (Int.tmod x5 3)))) r1.1) * (min (w64 (1 + (w64 (Int.tmod x6 3)))) r1.2.1)))) rfl rfl) rfl ?_
                    refine ow_nil ?_
                    refine seqK_n ?_
                    by_cases hc20468 : v1_t_31 < (w64 ((min (w64 (1 + (w64 (Int.tmod x5 3)))) r1.1) * (min (w64 (1 + (w64 (Int.tmod x6 3)))) r1.2.1)))
                    · rw [if_pos hc20468] at hm
                      refine cw_if_t rfl (decide_eq_true hc20468) ?_
                      refine cw_skip ?_
                      refine seqK_n ?_
                      refine cw_seq ?_
                      refine cw_block ?_
                      refine cw_seq ?_
                      have hg20469 := (ite_some hm).1
                      replace hm := (ite_some hm).2
                      have hg20470 := (ite_some hm).1
                      replace hm := (ite_some hm).2
                      refine cw_drawF mixed rfl (fun f0 L f w => ∃ (Iq : Im), Im.le I20466 Iq ∧ f = frL [(154, 0, .int .i64 v2_t_29), (155, 1, .int .i64 v1_t_31), (156, 2, .pointer (some ⟨b10, 0, none⟩)), (157, 3, .int .i64 (min (w64 (1 + (w64 (Int.tmod x5 3)))) r1.1)), (158, 4, .int .i64 (Int.tmod v1_t_31 (min (w64 (1 + (w64 (Int.tmod x5 3)))) r1.1))), (159, 5, .int .i64 (w64 (v2_t_29 + (Int.tmod v1_t_31 (min (w64 (1 + (w64 (Int.tmod x5 3)))) r1.1))))), (160, 6, .pointer (some ⟨b10, 0, none⟩)), (161, 7, .int .i64 (min (w64 (1 + (w64 (Int.tmod x5 3)))) r1.1)), (162, 8, .int .i64 (w64 ((min (w64 (1 + (w64 (Int.tmod x5 3)))) r1.1) - 1))), (163, 9, .int .i64 (w64 (Int.tdiv (w64 ((min (w64 (1 + (w64 (Int.tmod x5 3)))) r1.1) - 1)) 2))), (164, 10, .int .i64 (w64 ((w64 (v2_t_29 + (Int.tmod v1_t_31 (min (w64 (1 + (w64 (Int.tmod x5 3)))) r1.1)))) - (w64 (Int.tdiv (w64 ((min (w64 (1 + (w64 (Int.tmod x5 3)))) r1.1) - 1)) 2))))), (165, 11, .int .i64 v3_t_28), (166, 12, .int .i64 v1_t_31), (167, 13, .pointer (some ⟨b10, 0, none⟩)), (168, 14, .int .i64 (min (w64 (1 + (w64 (Int.tmod x5 3)))) r1.1)), (169, 15, .int .i64 (w64 (Int.tdiv v1_t_31 (min (w64 (1 + (w64 (Int.tmod x5 3)))) r1.1)))), (170, 16, .int .i64 (w64 (v3_t_28 + (w64 (Int.tdiv v1_t_31 (min (w64 (1 + (w64 (Int.tmod x5 3)))) r1.1)))))), (171, 17, .pointer (some ⟨b10, 1, none⟩)), (172, 18, .int .i64 (min (w64 (1 + (w64 (Int.tmod x6 3)))) r1.2.1)), (173, 19, .int .i64 (w64 ((min (w64 (1 + (w64 (Int.tmod x6 3)))) r1.2.1) - 1))), (174, 20, .int .i64 (w64 (Int.tdiv (w64 ((min (w64 (1 + (w64 (Int.tmod x6 3)))) r1.2.1) - 1)) 2))), (175, 21, .int .i64 (w64 ((w64 (v3_t_28 + (w64 (Int.tdiv v1_t_31 (min (w64 (1 + (w64 (Int.tmod x5 3)))) r1.1))))) - (w64 (Int.tdiv (w64 ((min (w64 (1 + (w64 (Int.tmod x6 3)))) r1.2.1) - 1)) 2))))), (32, 22, .int .i64 (w64 ((w64 (v2_t_29 + (Int.tmod v1_t_31 (min (w64 (1 + (w64 (Int.tmod x5 3)))) r1.1)))) - (w64 (Int.tdiv (w64 ((min (w64 (1 + (w64 (Int.tmod x5 3)))) r1.1) - 1)) 2))))), (33, 23, .int .i64 (w64 ((w64 (v3_t_28 + (w64 (Int.tdiv v1_t_31 (min (w64 (1 + (w64 (Int.tmod x5 3)))) r1.1))))) - (w64 (Int.tdiv (w64 ((min (w64 (1 + (w64 (Int.tmod x6 3)))) r1.2.1) - 1)) 2)))))] L f0 ∧ Sat Iq (osl 40 5 a_o_nt_25 v2_o_nt_25.length c_o_nt_25 (v2_o_nt_25.flatMap enc40) :: blk b166 32 [.slice a160 r156.1.length c161, .slice a163 r156.2.1.length c164] :: blk b10 28 [.int .i64 (min (w64 (1 + (w64 (Int.tmod x5 3)))) r1.1), .int .i64 (min (w64 (1 + (w64 (Int.tmod x6 3)))) r1.2.1), .slice a_o_nb_r11_2 o108.length c_o_nb_r11_2] :: blk b8 26 [.int .i64 r1.1, .int .i64 r1.2.1, .slice a5 r1.2.2.length c6] :: F) w) ⟨I20466, Im.le.refl _, (frL_ff _).symm, hs.drew⟩ ⟨?_, ?_, ?_, ?_, ?_, ?_, ?_, ?_, ?_, ?_, ?_, ?_, ?_, ?_, ?_, ?_, ?_, ?_, ?_, ?_, ?_, ?_, ?_, ?_, trivial⟩ ?_
                      all_goals clear hs
                      · rintro L f w _ hL ⟨Iq, hleq, rfl, hs⟩
                        replace hx2 := hx2.mono hleq
                        replace hR7 := hR7.mono hleq
                        replace hR155 := hR155.mono hleq
                        replace hR162 := hR162.mono hleq
                        replace hR165 := hR165.mono hleq
                        refine ow_v (x_move (v := .int .i64 v2_t_29) ht29_L3) rfl ?_
                        exact ow_nil ⟨rfl, rfl, Iq, hleq, frL_set rfl rfl, hs⟩
                      · rintro L f w _ hL ⟨Iq, hleq, rfl, hs⟩
                        replace hx2 := hx2.mono hleq
                        replace hR7 := hR7.mono hleq
                        replace hR155 := hR155.mono hleq
                        replace hR162 := hR162.mono hleq
                        replace hR165 := hR165.mono hleq
                        refine ow_v (x_move (v := .int .i64 v1_t_31) ht31_L3) rfl ?_
                        exact ow_nil ⟨rfl, rfl, Iq, hleq, frL_set rfl rfl, hs⟩
                      · rintro L f w _ hL ⟨Iq, hleq, rfl, hs⟩
                        replace hx2 := hx2.mono hleq
                        replace hR7 := hR7.mono hleq
                        replace hR155 := hR155.mono hleq
                        replace hR162 := hR162.mono hleq
                        replace hR165 := hR165.mono hleq
                        refine ow_field (b := b10) (o := 0) fl28_0 ht18_L3 ?_
                        exact ow_nil ⟨rfl, rfl, Iq, hleq, frL_set rfl rfl, hs⟩
                      · rintro L f w ⟨hL2, _⟩ hL ⟨Iq, hleq, rfl, hs⟩
                        replace hx2 := hx2.mono hleq
                        replace hR7 := hR7.mono hleq
                        replace hR155 := hR155.mono hleq
                        replace hR162 := hR162.mono hleq
                        replace hR165 := hR165.mono hleq
                        refine ow_load (k := 2) (vs := [.int .i64 (min (w64 (1 + (w64 (Int.tmod x5 3)))) r1.1)]) (v := .int .i64 (min (w64 (1 + (w64 (Int.tmod x5 3)))) r1.1)) hs rfl (frL_get rfl hL2) ty3 rfl rfl rfl ?_
                        exact ow_nil ⟨rfl, rfl, Iq, hleq, frL_set rfl rfl, hs⟩
                      · rintro L f w ⟨hL1, hL3, _⟩ hL ⟨Iq, hleq, rfl, hs⟩
                        replace hx2 := hx2.mono hleq
                        replace hR7 := hR7.mono hleq
                        replace hR155 := hR155.mono hleq
                        replace hR162 := hR162.mono hleq
                        replace hR165 := hR165.mono hleq
                        refine ow_v (x_rem (k := .i64) (a := v1_t_31) (b := (min (w64 (1 + (w64 (Int.tmod x5 3)))) r1.1)) (frL_get rfl hL1) (frL_get rfl hL3) hg20469) rfl ?_
                        exact ow_nil ⟨rfl, rfl, Iq, hleq, frL_set rfl rfl, hs⟩
                      · rintro L f w ⟨hL0, hL4, _⟩ hL ⟨Iq, hleq, rfl, hs⟩
                        replace hx2 := hx2.mono hleq
                        replace hR7 := hR7.mono hleq
                        replace hR155 := hR155.mono hleq
                        replace hR162 := hR162.mono hleq
                        replace hR165 := hR165.mono hleq
                        refine ow_v (x_add (k := .i64) (a := v2_t_29) (b := (Int.tmod v1_t_31 (min (w64 (1 + (w64 (Int.tmod x5 3)))) r1.1))) (frL_get rfl hL0) (frL_get rfl hL4)) rfl ?_
                        exact ow_nil ⟨rfl, rfl, Iq, hleq, frL_set rfl rfl, hs⟩
                      · rintro L f w _ hL ⟨Iq, hleq, rfl, hs⟩
                        replace hx2 := hx2.mono hleq
                        replace hR7 := hR7.mono hleq
                        replace hR155 := hR155.mono hleq
                        replace hR162 := hR162.mono hleq
                        replace hR165 := hR165.mono hleq
                        refine ow_field (b := b10) (o := 0) fl28_0 ht18_L3 ?_
                        exact ow_nil ⟨rfl, rfl, Iq, hleq, frL_set rfl rfl, hs⟩
                      · rintro L f w ⟨hL6, _⟩ hL ⟨Iq, hleq, rfl, hs⟩
                        replace hx2 := hx2.mono hleq
                        replace hR7 := hR7.mono hleq
                        replace hR155 := hR155.mono hleq
                        replace hR162 := hR162.mono hleq
                        replace hR165 := hR165.mono hleq
                        refine ow_load (k := 2) (vs := [.int .i64 (min (w64 (1 + (w64 (Int.tmod x5 3)))) r1.1)]) (v := .int .i64 (min (w64 (1 + (w64 (Int.tmod x5 3)))) r1.1)) hs rfl (frL_get rfl hL6) ty3 rfl rfl rfl ?_
                        exact ow_nil ⟨rfl, rfl, Iq, hleq, frL_set rfl rfl, hs⟩
                      · rintro L f w ⟨hL7, _⟩ hL ⟨Iq, hleq, rfl, hs⟩
                        replace hx2 := hx2.mono hleq
                        replace hR7 := hR7.mono hleq
                        replace hR155 := hR155.mono hleq
                        replace hR162 := hR162.mono hleq
                        replace hR165 := hR165.mono hleq
                        refine ow_v (x_sub (k := .i64) (a := (min (w64 (1 + (w64 (Int.tmod x5 3)))) r1.1)) (b := 1) (frL_get rfl hL7) rfl) rfl ?_
                        exact ow_nil ⟨rfl, rfl, Iq, hleq, frL_set rfl rfl, hs⟩
                      · rintro L f w ⟨hL8, _⟩ hL ⟨Iq, hleq, rfl, hs⟩
                        replace hx2 := hx2.mono hleq
                        replace hR7 := hR7.mono hleq
                        replace hR155 := hR155.mono hleq
                        replace hR162 := hR162.mono hleq
                        replace hR165 := hR165.mono hleq
                        refine ow_v (x_quo (k := .i64) (a := (w64 ((min (w64 (1 + (w64 (Int.tmod x5 3)))) r1.1) - 1))) (b := 2) (frL_get rfl hL8) rfl (by decide)) rfl ?_
                        exact ow_nil ⟨rfl, rfl, Iq, hleq, frL_set rfl rfl, hs⟩
                      · rintro L f w ⟨hL5, hL9, _⟩ hL ⟨Iq, hleq, rfl, hs⟩
                        replace hx2 := hx2.mono hleq
                        replace hR7 := hR7.mono hleq
                        replace hR155 := hR155.mono hleq
                        replace hR162 := hR162.mono hleq
                        replace hR165 := hR165.mono hleq
                        refine ow_v (x_sub (k := .i64) (a := (w64 (v2_t_29 + (Int.tmod v1_t_31 (min (w64 (1 + (w64 (Int.tmod x5 3)))) r1.1))))) (b := (w64 (Int.tdiv (w64 ((min (w64 (1 + (w64 (Int.tmod x5 3)))) r1.1) - 1)) 2))) (frL_get rfl hL5) (frL_get rfl hL9)) rfl ?_
                        exact ow_nil ⟨rfl, rfl, Iq, hleq, frL_set rfl rfl, hs⟩
                      · rintro L f w _ hL ⟨Iq, hleq, rfl, hs⟩
                        replace hx2 := hx2.mono hleq
                        replace hR7 := hR7.mono hleq
                        replace hR155 := hR155.mono hleq
                        replace hR162 := hR162.mono hleq
                        replace hR165 := hR165.mono hleq
                        refine ow_v (x_move (v := .int .i64 v3_t_28) ht28_L3) rfl ?_
                        exact ow_nil ⟨rfl, rfl, Iq, hleq, frL_set rfl rfl, hs⟩
                      · rintro L f w _ hL ⟨Iq, hleq, rfl, hs⟩
                        replace hx2 := hx2.mono hleq
                        replace hR7 := hR7.mono hleq
                        replace hR155 := hR155.mono hleq
                        replace hR162 := hR162.mono hleq
                        replace hR165 := hR165.mono hleq
                        refine ow_v (x_move (v := .int .i64 v1_t_31) ht31_L3) rfl ?_
                        exact ow_nil ⟨rfl, rfl, Iq, hleq, frL_set rfl rfl, hs⟩
                      · rintro L f w _ hL ⟨Iq, hleq, rfl, hs⟩
                        replace hx2 := hx2.mono hleq
                        replace hR7 := hR7.mono hleq
                        replace hR155 := hR155.mono hleq
                        replace hR162 := hR162.mono hleq
                        replace hR165 := hR165.mono hleq
                        refine ow_field (b := b10) (o := 0) fl28_0 ht18_L3 ?_
                        exact ow_nil ⟨rfl, rfl, Iq, hleq, frL_set rfl rfl, hs⟩
                      · rintro L f w ⟨hL13, _⟩ hL ⟨Iq, hleq, rfl, hs⟩
                        replace hx2 := hx2.mono hleq
                        replace hR7 := hR7.mono hleq
                        replace hR155 := hR155.mono hleq
                        replace hR162 := hR162.mono hleq
                        replace hR165 := hR165.mono hleq
                        refine ow_load (k := 2) (vs := [.int .i64 (min (w64 (1 + (w64 (Int.tmod x5 3)))) r1.1)]) (v := .int .i64 (min (w64 (1 + (w64 (Int.tmod x5 3)))) r1.1)) hs rfl (frL_get rfl hL13) ty3 rfl rfl rfl ?_
                        exact ow_nil ⟨rfl, rfl, Iq, hleq, frL_set rfl rfl, hs⟩
                      · rintro L f w ⟨hL12, hL14, _⟩ hL ⟨Iq, hleq, rfl, hs⟩
                        replace hx2 := hx2.mono hleq
                        replace hR7 := hR7.mono hleq
                        replace hR155 := hR155.mono hleq
                        replace hR162 := hR162.mono hleq
                        replace hR165 := hR165.mono hleq
                        refine ow_v (x_quo (k := .i64) (a := v1_t_31) (b := (min (w64 (1 + (w64 (Int.tmod x5 3)))) r1.1)) (frL_get rfl hL12) (frL_get rfl hL14) hg20470) rfl ?_
                        exact ow_nil ⟨rfl, rfl, Iq, hleq, frL_set rfl rfl, hs⟩
                      · rintro L f w ⟨hL11, hL15, _⟩ hL ⟨Iq, hleq, rfl, hs⟩
                        replace hx2 := hx2.mono hleq
                        replace hR7 := hR7.mono hleq
                        replace hR155 := hR155.mono hleq
                        replace hR162 := hR162.mono hleq
                        replace hR165 := hR165.mono hleq
                        refine ow_v (x_add (k := .i64) (a := v3_t_28) (b := (w64 (Int.tdiv v1_t_31 (min (w64 (1 + (w64 (Int.tmod x5 3)))) r1.1)))) (frL_get rfl hL11) (frL_get rfl hL15)) rfl ?_
                        exact ow_nil ⟨rfl, rfl, Iq, hleq, frL_set rfl rfl, hs⟩
                      · rintro L f w _ hL ⟨Iq, hleq, rfl, hs⟩
                        replace hx2 := hx2.mono hleq
                        replace hR7 := hR7.mono hleq
                        replace hR155 := hR155.mono hleq
                        replace hR162 := hR162.mono hleq
                        replace hR165 := hR165.mono hleq
                        refine ow_field (b := b10) (o := 0) fl28_1 ht18_L3 ?_
                        exact ow_nil ⟨rfl, rfl, Iq, hleq, frL_set rfl rfl, hs⟩
                      · rintro L f w ⟨hL17, _⟩ hL ⟨Iq, hleq, rfl, hs⟩
                        replace hx2 := hx2.mono hleq
                        replace hR7 := hR7.mono hleq
                        replace hR155 := hR155.mono hleq
                        replace hR162 := hR162.mono hleq
                        replace hR165 := hR165.mono hleq
                        refine ow_load (k := 2) (vs := [.int .i64 (min (w64 (1 + (w64 (Int.tmod x6 3)))) r1.2.1)]) (v := .int .i64 (min (w64 (1 + (w64 (Int.tmod x6 3)))) r1.2.1)) hs rfl (frL_get rfl hL17) ty3 rfl rfl rfl ?_
                        exact ow_nil ⟨rfl, rfl, Iq, hleq, frL_set rfl rfl, hs⟩
                      · rintro L f w ⟨hL18, _⟩ hL ⟨Iq, hleq, rfl, hs⟩
                        replace hx2 := hx2.mono hleq
                        replace hR7 := hR7.mono hleq
                        replace hR155 := hR155.mono hleq
                        replace hR162 := hR162.mono hleq
                        replace hR165 := hR165.mono hleq
                        refine ow_v (x_sub (k := .i64) (a := (min (w64 (1 + (w64 (Int.tmod x6 3)))) r1.2.1)) (b := 1) (frL_get rfl hL18) rfl) rfl ?_
                        exact ow_nil ⟨rfl, rfl, Iq, hleq, frL_set rfl rfl, hs⟩
                      · rintro L f w ⟨hL19, _⟩ hL ⟨Iq, hleq, rfl, hs⟩
                        replace hx2 := hx2.mono hleq
                        replace hR7 := hR7.mono hleq
                        replace hR155 := hR155.mono hleq
                        replace hR162 := hR162.mono hleq
                        replace hR165 := hR165.mono hleq
                        refine ow_v (x_quo (k := .i64) (a := (w64 ((min (w64 (1 + (w64 (Int.tmod x6 3)))) r1.2.1) - 1))) (b := 2) (frL_get rfl hL19) rfl (by decide)) rfl ?_
                        exact ow_nil ⟨rfl, rfl, Iq, hleq, frL_set rfl rfl, hs⟩
                      · rintro L f w ⟨hL16, hL20, _⟩ hL ⟨Iq, hleq, rfl, hs⟩
                        replace hx2 := hx2.mono hleq
                        replace hR7 := hR7.mono hleq
                        replace hR155 := hR155.mono hleq
                        replace hR162 := hR162.mono hleq
                        replace hR165 := hR165.mono hleq
                        refine ow_v (x_sub (k := .i64) (a := (w64 (v3_t_28 + (w64 (Int.tdiv v1_t_31 (min (w64 (1 + (w64 (Int.tmod x5 3)))) r1.1)))))) (b := (w64 (Int.tdiv (w64 ((min (w64 (1 + (w64 (Int.tmod x6 3)))) r1.2.1) - 1)) 2))) (frL_get rfl hL16) (frL_get rfl hL20)) rfl ?_
                        exact ow_nil ⟨rfl, rfl, Iq, hleq, frL_set rfl rfl, hs⟩
                      · rintro L f w ⟨hL10, hL0, hL1, hL2, hL3, hL4, hL5, hL6, hL7, hL8, hL9, _, _⟩ hL ⟨Iq, hleq, rfl, hs⟩
                        replace hx2 := hx2.mono hleq
                        replace hR7 := hR7.mono hleq
                        replace hR155 := hR155.mono hleq
                        replace hR162 := hR162.mono hleq
                        replace hR165 := hR165.mono hleq
                        refine ow_v (x_assign (v := .int .i64 (w64 ((w64 (v2_t_29 + (Int.tmod v1_t_31 (min (w64 (1 + (w64 (Int.tmod x5 3)))) r1.1)))) - (w64 (Int.tdiv (w64 ((min (w64 (1 + (w64 (Int.tmod x5 3)))) r1.1) - 1)) 2))))) (frL_get rfl hL10)) rfl ?_
                        exact ow_nil ⟨rfl, rfl, Iq, hleq, frL_set rfl rfl, hs⟩
                      · rintro L f w ⟨hL21, hL22, hL0, hL1, hL2, hL3, hL4, hL5, hL6, hL7, hL8, hL9, hL10, hL11, hL12, hL13, hL14, hL15, hL16, hL17, hL18, hL19, hL20, _, _, _⟩ hL ⟨Iq, hleq, rfl, hs⟩
                        replace hx2 := hx2.mono hleq
                        replace hR7 := hR7.mono hleq
                        replace hR155 := hR155.mono hleq
                        replace hR162 := hR162.mono hleq
                        replace hR165 := hR165.mono hleq
                        refine ow_v (x_assign (v := .int .i64 (w64 ((w64 (v3_t_28 + (w64 (Int.tdiv v1_t_31 (min (w64 (1 + (w64 (Int.tmod x5 3)))) r1.1))))) - (w64 (Int.tdiv (w64 ((min (w64 (1 + (w64 (Int.tmod x6 3)))) r1.2.1) - 1)) 2))))) (frL_get rfl hL21)) rfl ?_
                        exact ow_nil ⟨rfl, rfl, Iq, hleq, frL_set rfl rfl, hs⟩
                      rintro L f w hall ⟨I20472, hle20471, rfl, hs⟩
                      rw [frL_tt _ rfl hall]
                      replace hx2 := hx2.mono hle20471
                      replace hR7 := hR7.mono hle20471
                      replace hR155 := hR155.mono hle20471
                      replace hR162 := hR162.mono hle20471
                      replace hR165 := hR165.mono hle20471
                      refine seqK_n ?_
                      refine cw_seq ?_
                      refine cw_seq ?_
                      refine cw_region ?_
                      refine ow_v (x_move (v := .int .i64 (w64 ((w64 (v2_t_29 + (Int.tmod v1_t_31 (min (w64 (1 + (w64 (Int.tmod x5 3)))) r1.1)))) - (w64 (Int.tdiv (w64 ((min (w64 (1 + (w64 (Int.tmod x5 3)))) r1.1) - 1)) 2))))) rfl) rfl ?_
                      refine ow_v (x_lss (k := .i64) (a := (w64 ((w64 (v2_t_29 + (Int.tmod v1_t_31 (min (w64 (1 + (w64 (Int.tmod x5 3)))) r1.1)))) - (w64 (Int.tdiv (w64 ((min (w64 (1 + (w64 (Int.tmod x5 3)))) r1.1) - 1)) 2))))) (b := 0) rfl rfl) rfl ?_
                      refine ow_v (x_move (v := .bool (decide ((w64 ((w64 (v2_t_29 + (Int.tmod v1_t_31 (min (w64 (1 + (w64 (Int.tmod x5 3)))) r1.1)))) - (w64 (Int.tdiv (w64 ((min (w64 (1 + (w64 (Int.tmod x5 3)))) r1.1) - 1)) 2)))) < 0))) rfl) rfl ?_
                      obtain ⟨b20473, hmb20473, hm2⟩ := bind_some hm
                      replace hm := hm2; clear hm2
                      refine ow_joinN 5 (fun f ds w => ∃ (I20474 : Im), ds = [] ∧ Im.le I20472 I20474 ∧ Sat I20474 (osl 40 5 a_o_nt_25 v2_o_nt_25.length c_o_nt_25 (v2_o_nt_25.flatMap enc40) :: blk b166 32 [.slice a160 r156.1.length c161, .slice a163 r156.2.1.length c164] :: blk b10 28 [.int .i64 (min (w64 (1 + (w64 (Int.tmod x5 3)))) r1.1), .int .i64 (min (w64 (1 + (w64 (Int.tmod x6 3)))) r1.2.1), .slice a_o_nb_r11_2 o108.length c_o_nb_r11_2] :: blk b8 26 [.int .i64 r1.1, .int .i64 r1.2.1, .slice a5 r1.2.2.length c6] :: F) w ∧ f 183 = .bool b20473 ∧ f 16 = .bool false ∧ f 17 = .pointer (some ⟨b8, 0, none⟩) ∧ f 18 = .pointer (some ⟨b10, 0, none⟩) ∧ f 19 = .int .i64 (Int.tmod (w64 (x3)) (w64 ((w64 (r1.1 - (min (w64 (1 + (w64 (Int.tmod x5 3)))) r1.1))) + 1))) ∧ f 20 = .int .i64 (Int.tmod (w64 (x4)) (w64 ((w64 (r1.2.1 - (min (w64 (1 + (w64 (Int.tmod x6 3)))) r1.2.1))) + 1))) ∧ f 22 = .int .i64 (w64 (Int.tmod x7 1001)) ∧ f 23 = .pointer (some ⟨b166, 0, none⟩) ∧ f 25 = .slice a_o_nt_25 v2_o_nt_25.length c_o_nt_25 ∧ f 26 = .slice none 0 0 ∧ f 27 = .bool v2_t_27 ∧ f 28 = .int .i64 v3_t_28 ∧ f 29 = .int .i64 v2_t_29 ∧ f 30 = .int .i64 v1_t_30 ∧ f 31 = .int .i64 v1_t_31 ∧ f 32 = .int .i64 (w64 ((w64 (v2_t_29 + (Int.tmod v1_t_31 (min (w64 (1 + (w64 (Int.tmod x5 3)))) r1.1)))) - (w64 (Int.tdiv (w64 ((min (w64 (1 + (w64 (Int.tmod x5 3)))) r1.1) - 1)) 2)))) ∧ f 33 = .int .i64 (w64 ((w64 (v3_t_28 + (w64 (Int.tdiv v1_t_31 (min (w64 (1 + (w64 (Int.tmod x5 3)))) r1.1))))) - (w64 (Int.tdiv (w64 ((min (w64 (1 + (w64 (Int.tmod x6 3)))) r1.2.1) - 1)) 2))))) ?_ ?_
                      · by_cases hc20476 : (w64 ((w64 (v2_t_29 + (Int.tmod v1_t_31 (min (w64 (1 + (w64 (Int.tmod x5 3)))) r1.1)))) - (w64 (Int.tdiv (w64 ((min (w64 (1 + (w64 (Int.tmod x5 3)))) r1.1) - 1)) 2)))) < 0
                        · rw [if_pos hc20476] at hmb20473
                          refine ow_no (b := true) (yl_of rfl rfl (decide_eq_true hc20476)) rfl ?_
                          refine ow_no (b := true) (yl_of rfl rfl (decide_eq_true hc20476)) rfl ?_
                          refine ow_no (b := true) (yl_of rfl rfl (decide_eq_true hc20476)) rfl ?_
                          refine ow_no (b := true) (yl_of rfl rfl (decide_eq_true hc20476)) rfl ?_
                          refine ow_v (x_pick_t (v := .bool true) ((rfl : ev _ _ _ = _).trans (congrArg Value.bool (decide_eq_true hc20476))) rfl) rfl ?_
                          refine ow_nil ?_
                          obtain rfl := Option.some.inj hmb20473
                          exact ⟨I20472, rfl, Im.le.refl _, hs, rfl, ht16_L3, ht17_L3, ht18_L3, ht19_L3, ht20_L3, ht22_L3, ht23_L3, ht25_L3, ht26_L3, ht27_L3, ht28_L3, ht29_L3, ht30_L3, ht31_L3, rfl, rfl⟩
                        · rw [if_neg hc20476] at hmb20473
                          refine ow_go (yl_of rfl rfl (decide_eq_false hc20476)) ?_
                          refine ow_v (x_move (v := .int .i64 (w64 ((w64 (v2_t_29 + (Int.tmod v1_t_31 (min (w64 (1 + (w64 (Int.tmod x5 3)))) r1.1)))) - (w64 (Int.tdiv (w64 ((min (w64 (1 + (w64 (Int.tmod x5 3)))) r1.1) - 1)) 2))))) rfl) rfl ?_
                          refine ow_go (yl_of rfl rfl (decide_eq_false hc20476)) ?_
                          refine ow_field (b := b8) (o := 0) fl26_0 ht17_L3 ?_
                          refine ow_go (yl_of rfl rfl (decide_eq_false hc20476)) ?_
                          refine ow_load (k := 3) (vs := [.int .i64 r1.1]) (v := .int .i64 r1.1) hs rfl rfl ty3 rfl rfl rfl ?_
                          refine ow_go (yl_of rfl rfl (decide_eq_false hc20476)) ?_
                          refine ow_v (x_geq (k := .i64) (a := (w64 ((w64 (v2_t_29 + (Int.tmod v1_t_31 (min (w64 (1 + (w64 (Int.tmod x5 3)))) r1.1)))) - (w64 (Int.tdiv (w64 ((min (w64 (1 + (w64 (Int.tmod x5 3)))) r1.1) - 1)) 2))))) (b := r1.1) rfl rfl) rfl ?_
                          refine ow_v (x_pick_f (v := .bool (decide (r1.1 ≤ (w64 ((w64 (v2_t_29 + (Int.tmod v1_t_31 (min (w64 (1 + (w64 (Int.tmod x5 3)))) r1.1)))) - (w64 (Int.tdiv (w64 ((min (w64 (1 + (w64 (Int.tmod x5 3)))) r1.1) - 1)) 2))))))) ((rfl : ev _ _ _ = _).trans (congrArg Value.bool (decide_eq_false hc20476))) rfl) rfl ?_
                          refine ow_nil ?_
                          obtain rfl := Option.some.inj hmb20473
                          exact ⟨I20472, rfl, Im.le.refl _, hs, rfl, ht16_L3, ht17_L3, ht18_L3, ht19_L3, ht20_L3, ht22_L3, ht23_L3, ht25_L3, ht26_L3, ht27_L3, ht28_L3, ht29_L3, ht30_L3, ht31_L3, rfl, rfl⟩
                      · clear hmb20473 hs
                        rintro f ds w ⟨I20474, rfl, hle20475, hs, htbb20473, ht16_b20473, ht17_b20473, ht18_b20473, ht19_b20473, ht20_b20473, ht22_b20473, ht23_b20473, ht25_b20473, ht26_b20473, ht27_b20473, ht28_b20473, ht29_b20473, ht30_b20473, ht31_b20473, ht32_b20473, ht33_b20473⟩
                        replace hx2 := hx2.mono hle20475
                        replace hR7 := hR7.mono hle20475
                        replace hR155 := hR155.mono hle20475
                        replace hR162 := hR162.mono hle20475
                        replace hR165 := hR165.mono hle20475
                        refine ow_v (x_move (v := .bool b20473) htbb20473) rfl ?_
                        obtain ⟨b20477, hmb20477, hm2⟩ := bind_some hm
                        replace hm := hm2; clear hm2
                        refine ow_joinN 3 (fun f ds w => ∃ (I20478 : Im), ds = [] ∧ Im.le I20474 I20478 ∧ Sat I20478 (osl 40 5 a_o_nt_25 v2_o_nt_25.length c_o_nt_25 (v2_o_nt_25.flatMap enc40) :: blk b166 32 [.slice a160 r156.1.length c161, .slice a163 r156.2.1.length c164] :: blk b10 28 [.int .i64 (min (w64 (1 + (w64 (Int.tmod x5 3)))) r1.1), .int .i64 (min (w64 (1 + (w64 (Int.tmod x6 3)))) r1.2.1), .slice a_o_nb_r11_2 o108.length c_o_nb_r11_2] :: blk b8 26 [.int .i64 r1.1, .int .i64 r1.2.1, .slice a5 r1.2.2.length c6] :: F) w ∧ f 187 = .bool b20477 ∧ f 16 = .bool false ∧ f 17 = .pointer (some ⟨b8, 0, none⟩) ∧ f 18 = .pointer (some ⟨b10, 0, none⟩) ∧ f 19 = .int .i64 (Int.tmod (w64 (x3)) (w64 ((w64 (r1.1 - (min (w64 (1 + (w64 (Int.tmod x5 3)))) r1.1))) + 1))) ∧ f 20 = .int .i64 (Int.tmod (w64 (x4)) (w64 ((w64 (r1.2.1 - (min (w64 (1 + (w64 (Int.tmod x6 3)))) r1.2.1))) + 1))) ∧ f 22 = .int .i64 (w64 (Int.tmod x7 1001)) ∧ f 23 = .pointer (some ⟨b166, 0, none⟩) ∧ f 25 = .slice a_o_nt_25 v2_o_nt_25.length c_o_nt_25 ∧ f 26 = .slice none 0 0 ∧ f 27 = .bool v2_t_27 ∧ f 28 = .int .i64 v3_t_28 ∧ f 29 = .int .i64 v2_t_29 ∧ f 30 = .int .i64 v1_t_30 ∧ f 31 = .int .i64 v1_t_31 ∧ f 32 = .int .i64 (w64 ((w64 (v2_t_29 + (Int.tmod v1_t_31 (min (w64 (1 + (w64 (Int.tmod x5 3)))) r1.1)))) - (w64 (Int.tdiv (w64 ((min (w64 (1 + (w64 (Int.tmod x5 3)))) r1.1) - 1)) 2)))) ∧ f 33 = .int .i64 (w64 ((w64 (v3_t_28 + (w64 (Int.tdiv v1_t_31 (min (w64 (1 + (w64 (Int.tmod x5 3)))) r1.1))))) - (w64 (Int.tdiv (w64 ((min (w64 (1 + (w64 (Int.tmod x6 3)))) r1.2.1) - 1)) 2))))) ?_ ?_
                        · by_cases hc20480 : b20473 = true
                          · rw [if_pos hc20480] at hmb20477
                            refine ow_no (b := true) (yl_of rfl rfl hc20480) rfl ?_
                            refine ow_no (b := true) (yl_of rfl rfl hc20480) rfl ?_
                            refine ow_v (x_pick_t (v := .bool true) ((rfl : ev _ _ _ = _).trans (congrArg Value.bool hc20480)) rfl) rfl ?_
                            refine ow_nil ?_
                            obtain rfl := Option.some.inj hmb20477
                            exact ⟨I20474, rfl, Im.le.refl _, hs, rfl, ht16_b20473, ht17_b20473, ht18_b20473, ht19_b20473, ht20_b20473, ht22_b20473, ht23_b20473, ht25_b20473, ht26_b20473, ht27_b20473, ht28_b20473, ht29_b20473, ht30_b20473, ht31_b20473, ht32_b20473, ht33_b20473⟩
                          · rw [if_neg hc20480] at hmb20477
                            refine ow_go (yl_of rfl rfl (Bool.eq_false_iff.2 hc20480)) ?_
                            refine ow_v (x_move (v := .int .i64 (w64 ((w64 (v3_t_28 + (w64 (Int.tdiv v1_t_31 (min (w64 (1 + (w64 (Int.tmod x5 3)))) r1.1))))) - (w64 (Int.tdiv (w64 ((min (w64 (1 + (w64 (Int.tmod x6 3)))) r1.2.1) - 1)) 2))))) ht33_b20473) rfl ?_
                            refine ow_go (yl_of rfl rfl (Bool.eq_false_iff.2 hc20480)) ?_
                            refine ow_v (x_lss (k := .i64) (a := (w64 ((w64 (v3_t_28 + (w64 (Int.tdiv v1_t_31 (min (w64 (1 + (w64 (Int.tmod x5 3)))) r1.1))))) - (w64 (Int.tdiv (w64 ((min (w64 (1 + (w64 (Int.tmod x6 3)))) r1.2.1) - 1)) 2))))) (b := 0) rfl rfl) rfl ?_
                            refine ow_v (x_pick_f (v := .bool (decide ((w64 ((w64 (v3_t_28 + (w64 (Int.tdiv v1_t_31 (min (w64 (1 + (w64 (Int.tmod x5 3)))) r1.1))))) - (w64 (Int.tdiv (w64 ((min (w64 (1 + (w64 (Int.tmod x6 3)))) r1.2.1) - 1)) 2)))) < 0))) ((rfl : ev _ _ _ = _).trans (congrArg Value.bool (Bool.eq_false_iff.2 hc20480))) rfl) rfl ?_
                            refine ow_nil ?_
                            obtain rfl := Option.some.inj hmb20477
                            exact ⟨I20474, rfl, Im.le.refl _, hs, rfl, ht16_b20473, ht17_b20473, ht18_b20473, ht19_b20473, ht20_b20473, ht22_b20473, ht23_b20473, ht25_b20473, ht26_b20473, ht27_b20473, ht28_b20473, ht29_b20473, ht30_b20473, ht31_b20473, ht32_b20473, ht33_b20473⟩
                        · clear hmb20477 hs
                          rintro f ds w ⟨I20478, rfl, hle20479, hs, htbb20477, ht16_b20477, ht17_b20477, ht18_b20477, ht19_b20477, ht20_b20477, ht22_b20477, ht23_b20477, ht25_b20477, ht26_b20477, ht27_b20477, ht28_b20477, ht29_b20477, ht30_b20477, ht31_b20477, ht32_b20477, ht33_b20477⟩
                          replace hx2 := hx2.mono hle20479
                          replace hR7 := hR7.mono hle20479
                          replace hR155 := hR155.mono hle20479
                          replace hR162 := hR162.mono hle20479
                          replace hR165 := hR165.mono hle20479
                          refine ow_v (x_move (v := .bool b20477) htbb20477) rfl ?_
                          obtain ⟨b20481, hmb20481, hm2⟩ := bind_some hm
                          replace hm := hm2; clear hm2
                          refine ow_joinN 5 (fun f ds w => ∃ (I20482 : Im), ds = [] ∧ Im.le I20478 I20482 ∧ Sat I20482 (osl 40 5 a_o_nt_25 v2_o_nt_25.length c_o_nt_25 (v2_o_nt_25.flatMap enc40) :: blk b166 32 [.slice a160 r156.1.length c161, .slice a163 r156.2.1.length c164] :: blk b10 28 [.int .i64 (min (w64 (1 + (w64 (Int.tmod x5 3)))) r1.1), .int .i64 (min (w64 (1 + (w64 (Int.tmod x6 3)))) r1.2.1), .slice a_o_nb_r11_2 o108.length c_o_nb_r11_2] :: blk b8 26 [.int .i64 r1.1, .int .i64 r1.2.1, .slice a5 r1.2.2.length c6] :: F) w ∧ f 193 = .bool b20481 ∧ f 16 = .bool false ∧ f 17 = .pointer (some ⟨b8, 0, none⟩) ∧ f 18 = .pointer (some ⟨b10, 0, none⟩) ∧ f 19 = .int .i64 (Int.tmod (w64 (x3)) (w64 ((w64 (r1.1 - (min (w64 (1 + (w64 (Int.tmod x5 3)))) r1.1))) + 1))) ∧ f 20 = .int .i64 (Int.tmod (w64 (x4)) (w64 ((w64 (r1.2.1 - (min (w64 (1 + (w64 (Int.tmod x6 3)))) r1.2.1))) + 1))) ∧ f 22 = .int .i64 (w64 (Int.tmod x7 1001)) ∧ f 23 = .pointer (some ⟨b166, 0, none⟩) ∧ f 25 = .slice a_o_nt_25 v2_o_nt_25.length c_o_nt_25 ∧ f 26 = .slice none 0 0 ∧ f 27 = .bool v2_t_27 ∧ f 28 = .int .i64 v3_t_28 ∧ f 29 = .int .i64 v2_t_29 ∧ f 30 = .int .i64 v1_t_30 ∧ f 31 = .int .i64 v1_t_31 ∧ f 32 = .int .i64 (w64 ((w64 (v2_t_29 + (Int.tmod v1_t_31 (min (w64 (1 + (w64 (Int.tmod x5 3)))) r1.1)))) - (w64 (Int.tdiv (w64 ((min (w64 (1 + (w64 (Int.tmod x5 3)))) r1.1) - 1)) 2)))) ∧ f 33 = .int .i64 (w64 ((w64 (v3_t_28 + (w64 (Int.tdiv v1_t_31 (min (w64 (1 + (w64 (Int.tmod x5 3)))) r1.1))))) - (w64 (Int.tdiv (w64 ((min (w64 (1 + (w64 (Int.tmod x6 3)))) r1.2.1) - 1)) 2))))) ?_ ?_
                          · by_cases hc20484 : b20477 = true
                            · rw [if_pos hc20484] at hmb20481
                              refine ow_no (b := true) (yl_of rfl rfl hc20484) rfl ?_
                              refine ow_no (b := true) (yl_of rfl rfl hc20484) rfl ?_
                              refine ow_no (b := true) (yl_of rfl rfl hc20484) rfl ?_
                              refine ow_no (b := true) (yl_of rfl rfl hc20484) rfl ?_
                              refine ow_v (x_pick_t (v := .bool true) ((rfl : ev _ _ _ = _).trans (congrArg Value.bool hc20484)) rfl) rfl ?_
                              refine ow_nil ?_
                              obtain rfl := Option.some.inj hmb20481
                              exact ⟨I20478, rfl, Im.le.refl _, hs, rfl, ht16_b20477, ht17_b20477, ht18_b20477, ht19_b20477, ht20_b20477, ht22_b20477, ht23_b20477, ht25_b20477, ht26_b20477, ht27_b20477, ht28_b20477, ht29_b20477, ht30_b20477, ht31_b20477, ht32_b20477, ht33_b20477⟩
                            · rw [if_neg hc20484] at hmb20481
                              refine ow_go (yl_of rfl rfl (Bool.eq_false_iff.2 hc20484)) ?_
                              refine ow_v (x_move (v := .int .i64 (w64 ((w64 (v3_t_28 + (w64 (Int.tdiv v1_t_31 (min (w64 (1 + (w64 (Int.tmod x5 3)))) r1.1))))) - (w64 (Int.tdiv (w64 ((min (w64 (1 + (w64 (Int.tmod x6 3)))) r1.2.1) - 1)) 2))))) ht33_b20477) rfl ?_
                              refine ow_go (yl_of rfl rfl (Bool.eq_false_iff.2 hc20484)) ?_
                              refine ow_field (b := b8) (o := 0) fl26_1 ht17_b20477 ?_
                              refine ow_go (yl_of rfl rfl (Bool.eq_false_iff.2 hc20484)) ?_
                              refine ow_load (k := 3) (vs := [.int .i64 r1.2.1]) (v := .int .i64 r1.2.1) hs rfl rfl ty3 rfl rfl rfl ?_
                              refine ow_go (yl_of rfl rfl (Bool.eq_false_iff.2 hc20484)) ?_
                              refine ow_v (x_geq (k := .i64) (a := (w64 ((w64 (v3_t_28 + (w64 (Int.tdiv v1_t_31 (min (w64 (1 + (w64 (Int.tmod x5 3)))) r1.1))))) - (w64 (Int.tdiv (w64 ((min (w64 (1 + (w64 (Int.tmod x6 3)))) r1.2.1) - 1)) 2))))) (b := r1.2.1) rfl rfl) rfl ?_
                              refine ow_v (x_pick_f (v := .bool (decide (r1.2.1 ≤ (w64 ((w64 (v3_t_28 + (w64 (Int.tdiv v1_t_31 (min (w64 (1 + (w64 (Int.tmod x5 3)))) r1.1))))) - (w64 (Int.tdiv (w64 ((min (w64 (1 + (w64 (Int.tmod x6 3)))) r1.2.1) - 1)) 2))))))) ((rfl : ev _ _ _ = _).trans (congrArg Value.bool (Bool.eq_false_iff.2 hc20484))) rfl) rfl ?_
                              refine ow_nil ?_
                              obtain rfl := Option.some.inj hmb20481
                              exact ⟨I20478, rfl, Im.le.refl _, hs, rfl, ht16_b20477, ht17_b20477, ht18_b20477, ht19_b20477, ht20_b20477, ht22_b20477, ht23_b20477, ht25_b20477, ht26_b20477, ht27_b20477, ht28_b20477, ht29_b20477, ht30_b20477, ht31_b20477, ht32_b20477, ht33_b20477⟩
                          · clear hmb20481 hs
                            rintro f ds w ⟨I20482, rfl, hle20483, hs, htbb20481, ht16_b20481, ht17_b20481, ht18_b20481, ht19_b20481, ht20_b20481, ht22_b20481, ht23_b20481, ht25_b20481, ht26_b20481, ht27_b20481, ht28_b20481, ht29_b20481, ht30_b20481, ht31_b20481, ht32_b20481, ht33_b20481⟩
                            replace hx2 := hx2.mono hle20483
                            replace hR7 := hR7.mono hle20483
                            replace hR155 := hR155.mono hle20483
                            replace hR162 := hR162.mono hle20483
                            replace hR165 := hR165.mono hle20483
                            refine ow_nil ?_
                            refine seqK_n ?_
                            by_cases hc20485 : b20481 = true
                            · rw [if_pos hc20485] at hm
                              refine cw_if_t htbb20481 hc20485 ?_
                              refine cw_seq ?_
                              refine cw_region ?_
                              refine ow_v (x_move (v := .int .i64 v1_t_30) ht30_b20481) rfl ?_
                              refine ow_v (x_add (k := .i64) (a := v1_t_30) (b := 255) rfl rfl) rfl ?_
                              refine ow_v (x_assign (v := .int .i64 (w64 (v1_t_30 + 255))) rfl) rfl ?_
                              refine ow_nil ?_
                              refine seqK_n ?_
                              refine cw_exit ?_
                              refine seqK_x ?_
                              refine blockK_hit ?_
                              refine seqK_n ?_
                              refine cw_region ?_
                              refine ow_v (x_move (v := .int .i64 v1_t_31) ht31_b20481) rfl ?_
                              refine ow_v (x_add (k := .i64) (a := v1_t_31) (b := 1) rfl rfl) rfl ?_
                              refine ow_v (x_assign (v := .int .i64 (w64 (v1_t_31 + 1))) rfl) rfl ?_
                              refine ow_nil ?_
                              exact loopK_n ⟨k, Nat.lt_succ_self k, w64 (v1_t_30 + 255), w64 (v1_t_31 + 1), I20482, rfl, ((((hle20467.trans hle20471).trans hle20475).trans hle20479).trans hle20483), hm, hs, ht16_b20481, ht17_b20481, ht18_b20481, ht19_b20481, ht20_b20481, ht22_b20481, ht23_b20481, ht25_b20481, ht26_b20481, ht27_b20481, ht28_b20481, ht29_b20481, rfl, rfl⟩
                            · rw [if_neg hc20485] at hm
                              refine cw_if_f htbb20481 (Bool.eq_false_iff.2 hc20485) ?_
                              refine cw_skip ?_
                              refine seqK_n ?_
                              refine cw_seq ?_
                              have hg20486 := (ite_some hm).1
                              replace hm := (ite_some hm).2
                              have hg20487 := (ite_some hm).1
                              replace hm := (ite_some hm).2
                              refine cw_drawF mixed rfl (fun f0 L f w => ∃ (Iq : Im), Im.le I20482 Iq ∧ f = frL [(196, 0, .pointer (some ⟨b8, 2, none⟩)), (197, 1, .slice a5 r1.2.2.length c6), (198, 2, .int .i64 (w64 ((w64 (v3_t_28 + (w64 (Int.tdiv v1_t_31 (min (w64 (1 + (w64 (Int.tmod x5 3)))) r1.1))))) - (w64 (Int.tdiv (w64 ((min (w64 (1 + (w64 (Int.tmod x6 3)))) r1.2.1) - 1)) 2))))), (199, 3, .pointer (some ⟨b8, 0, none⟩)), (200, 4, .int .i64 r1.1), (201, 5, .int .i64 (w64 ((w64 ((w64 (v3_t_28 + (w64 (Int.tdiv v1_t_31 (min (w64 (1 + (w64 (Int.tmod x5 3)))) r1.1))))) - (w64 (Int.tdiv (w64 ((min (w64 (1 + (w64 (Int.tmod x6 3)))) r1.2.1) - 1)) 2)))) * r1.1))), (202, 6, .int .i64 (w64 ((w64 (v2_t_29 + (Int.tmod v1_t_31 (min (w64 (1 + (w64 (Int.tmod x5 3)))) r1.1)))) - (w64 (Int.tdiv (w64 ((min (w64 (1 + (w64 (Int.tmod x5 3)))) r1.1) - 1)) 2))))), (203, 7, .int .i64 (w64 ((w64 ((w64 ((w64 (v3_t_28 + (w64 (Int.tdiv v1_t_31 (min (w64 (1 + (w64 (Int.tmod x5 3)))) r1.1))))) - (w64 (Int.tdiv (w64 ((min (w64 (1 + (w64 (Int.tmod x6 3)))) r1.2.1) - 1)) 2)))) * r1.1)) + (w64 ((w64 (v2_t_29 + (Int.tmod v1_t_31 (min (w64 (1 + (w64 (Int.tmod x5 3)))) r1.1)))) - (w64 (Int.tdiv (w64 ((min (w64 (1 + (w64 (Int.tmod x5 3)))) r1.1) - 1)) 2))))))), (204, 8, .pointer (some (ea a5 ((w64 ((w64 ((w64 ((w64 (v3_t_28 + (w64 (Int.tdiv v1_t_31 (min (w64 (1 + (w64 (Int.tmod x5 3)))) r1.1))))) - (w64 (Int.tdiv (w64 ((min (w64 (1 + (w64 (Int.tmod x6 3)))) r1.2.1) - 1)) 2)))) * r1.1)) + (w64 ((w64 (v2_t_29 + (Int.tmod v1_t_31 (min (w64 (1 + (w64 (Int.tmod x5 3)))) r1.1)))) - (w64 (Int.tdiv (w64 ((min (w64 (1 + (w64 (Int.tmod x5 3)))) r1.1) - 1)) 2)))))).toNat * 1)))), (205, 9, .int .i64 (at' r1.2.2 (w64 ((w64 ((w64 ((w64 (v3_t_28 + (w64 (Int.tdiv v1_t_31 (min (w64 (1 + (w64 (Int.tmod x5 3)))) r1.1))))) - (w64 (Int.tdiv (w64 ((min (w64 (1 + (w64 (Int.tmod x6 3)))) r1.2.1) - 1)) 2)))) * r1.1)) + (w64 ((w64 (v2_t_29 + (Int.tmod v1_t_31 (min (w64 (1 + (w64 (Int.tmod x5 3)))) r1.1)))) - (w64 (Int.tdiv (w64 ((min (w64 (1 + (w64 (Int.tmod x5 3)))) r1.1) - 1)) 2)))))))), (206, 10, .pointer (some ⟨b10, 2, none⟩)), (207, 11, .slice a_o_nb_r11_2 o108.length c_o_nb_r11_2), (208, 12, .int .i64 v1_t_31), (209, 13, .pointer (some (ea a_o_nb_r11_2 (v1_t_31.toNat * 1)))), (210, 14, .int .i64 (at' o108 v1_t_31)), (211, 15, .int .i64 (w64 ((at' r1.2.2 (w64 ((w64 ((w64 ((w64 (v3_t_28 + (w64 (Int.tdiv v1_t_31 (min (w64 (1 + (w64 (Int.tmod x5 3)))) r1.1))))) - (w64 (Int.tdiv (w64 ((min (w64 (1 + (w64 (Int.tmod x6 3)))) r1.2.1) - 1)) 2)))) * r1.1)) + (w64 ((w64 (v2_t_29 + (Int.tmod v1_t_31 (min (w64 (1 + (w64 (Int.tmod x5 3)))) r1.1)))) - (w64 (Int.tdiv (w64 ((min (w64 (1 + (w64 (Int.tmod x5 3)))) r1.1) - 1)) 2))))))) - (at' o108 v1_t_31)))), (34, 16, .int .i64 (w64 ((at' r1.2.2 (w64 ((w64 ((w64 ((w64 (v3_t_28 + (w64 (Int.tdiv v1_t_31 (min (w64 (1 + (w64 (Int.tmod x5 3)))) r1.1))))) - (w64 (Int.tdiv (w64 ((min (w64 (1 + (w64 (Int.tmod x6 3)))) r1.2.1) - 1)) 2)))) * r1.1)) + (w64 ((w64 (v2_t_29 + (Int.tmod v1_t_31 (min (w64 (1 + (w64 (Int.tmod x5 3)))) r1.1)))) - (w64 (Int.tdiv (w64 ((min (w64 (1 + (w64 (Int.tmod x5 3)))) r1.1) - 1)) 2))))))) - (at' o108 v1_t_31))))] L f0 ∧ Sat Iq (osl 40 5 a_o_nt_25 v2_o_nt_25.length c_o_nt_25 (v2_o_nt_25.flatMap enc40) :: blk b166 32 [.slice a160 r156.1.length c161, .slice a163 r156.2.1.length c164] :: blk b10 28 [.int .i64 (min (w64 (1 + (w64 (Int.tmod x5 3)))) r1.1), .int .i64 (min (w64 (1 + (w64 (Int.tmod x6 3)))) r1.2.1), .slice a_o_nb_r11_2 o108.length c_o_nb_r11_2] :: blk b8 26 [.int .i64 r1.1, .int .i64 r1.2.1, .slice a5 r1.2.2.length c6] :: F) w) ⟨I20482, Im.le.refl _, (frL_ff _).symm, hs.drew⟩ ⟨?_, ?_, ?_, ?_, ?_, ?_, ?_, ?_, ?_, ?_, ?_, ?_, ?_, ?_, ?_, ?_, ?_, trivial⟩ ?_
                              all_goals clear hs
                              · rintro L f w _ hL ⟨Iq, hleq, rfl, hs⟩
                                replace hx2 := hx2.mono hleq
                                replace hR7 := hR7.mono hleq
                                replace hR155 := hR155.mono hleq
                                replace hR162 := hR162.mono hleq
                                replace hR165 := hR165.mono hleq
                                refine ow_field (b := b8) (o := 0) fl26_2 ht17_b20481 ?_
                                exact ow_nil ⟨rfl, rfl, Iq, hleq, frL_set rfl rfl, hs⟩
                              · rintro L f w ⟨hL0, _⟩ hL ⟨Iq, hleq, rfl, hs⟩
                                replace hx2 := hx2.mono hleq
                                replace hR7 := hR7.mono hleq
                                replace hR155 := hR155.mono hleq
                                replace hR162 := hR162.mono hleq
                                replace hR165 := hR165.mono hleq
                                refine ow_load (k := 3) (vs := [.slice a5 r1.2.2.length c6]) (v := .slice a5 r1.2.2.length c6) hs rfl (frL_get rfl hL0) ty24 rfl rfl rfl ?_
                                exact ow_nil ⟨rfl, rfl, Iq, hleq, frL_set rfl rfl, hs⟩
                              · rintro L f w _ hL ⟨Iq, hleq, rfl, hs⟩
                                replace hx2 := hx2.mono hleq
                                replace hR7 := hR7.mono hleq
                                replace hR155 := hR155.mono hleq
                                replace hR162 := hR162.mono hleq
                                replace hR165 := hR165.mono hleq
                                refine ow_v (x_move (v := .int .i64 (w64 ((w64 (v3_t_28 + (w64 (Int.tdiv v1_t_31 (min (w64 (1 + (w64 (Int.tmod x5 3)))) r1.1))))) - (w64 (Int.tdiv (w64 ((min (w64 (1 + (w64 (Int.tmod x6 3)))) r1.2.1) - 1)) 2))))) ht33_b20481) rfl ?_
                                exact ow_nil ⟨rfl, rfl, Iq, hleq, frL_set rfl rfl, hs⟩
                              · rintro L f w _ hL ⟨Iq, hleq, rfl, hs⟩
                                replace hx2 := hx2.mono hleq
                                replace hR7 := hR7.mono hleq
                                replace hR155 := hR155.mono hleq
                                replace hR162 := hR162.mono hleq
                                replace hR165 := hR165.mono hleq
                                refine ow_field (b := b8) (o := 0) fl26_0 ht17_b20481 ?_
                                exact ow_nil ⟨rfl, rfl, Iq, hleq, frL_set rfl rfl, hs⟩
                              · rintro L f w ⟨hL3, _⟩ hL ⟨Iq, hleq, rfl, hs⟩
                                replace hx2 := hx2.mono hleq
                                replace hR7 := hR7.mono hleq
                                replace hR155 := hR155.mono hleq
                                replace hR162 := hR162.mono hleq
                                replace hR165 := hR165.mono hleq
                                refine ow_load (k := 3) (vs := [.int .i64 r1.1]) (v := .int .i64 r1.1) hs rfl (frL_get rfl hL3) ty3 rfl rfl rfl ?_
                                exact ow_nil ⟨rfl, rfl, Iq, hleq, frL_set rfl rfl, hs⟩
                              · rintro L f w ⟨hL2, hL4, _⟩ hL ⟨Iq, hleq, rfl, hs⟩
                                replace hx2 := hx2.mono hleq
                                replace hR7 := hR7.mono hleq
                                replace hR155 := hR155.mono hleq
                                replace hR162 := hR162.mono hleq
                                replace hR165 := hR165.mono hleq
                                refine ow_v (x_mul (k := .i64) (a := (w64 ((w64 (v3_t_28 + (w64 (Int.tdiv v1_t_31 (min (w64 (1 + (w64 (Int.tmod x5 3)))) r1.1))))) - (w64 (Int.tdiv (w64 ((min (w64 (1 + (w64 (Int.tmod x6 3)))) r1.2.1) - 1)) 2))))) (b := r1.1) (frL_get rfl hL2) (frL_get rfl hL4)) rfl ?_
                                exact ow_nil ⟨rfl, rfl, Iq, hleq, frL_set rfl rfl, hs⟩
                              · rintro L f w _ hL ⟨Iq, hleq, rfl, hs⟩
                                replace hx2 := hx2.mono hleq
                                replace hR7 := hR7.mono hleq
                                replace hR155 := hR155.mono hleq
                                replace hR162 := hR162.mono hleq
                                replace hR165 := hR165.mono hleq
                                refine ow_v (x_move (v := .int .i64 (w64 ((w64 (v2_t_29 + (Int.tmod v1_t_31 (min (w64 (1 + (w64 (Int.tmod x5 3)))) r1.1)))) - (w64 (Int.tdiv (w64 ((min (w64 (1 + (w64 (Int.tmod x5 3)))) r1.1) - 1)) 2))))) ht32_b20481) rfl ?_
                                exact ow_nil ⟨rfl, rfl, Iq, hleq, frL_set rfl rfl, hs⟩
                              · rintro L f w ⟨hL5, hL6, _⟩ hL ⟨Iq, hleq, rfl, hs⟩
                                replace hx2 := hx2.mono hleq
                                replace hR7 := hR7.mono hleq
                                replace hR155 := hR155.mono hleq
                                replace hR162 := hR162.mono hleq
                                replace hR165 := hR165.mono hleq
                                refine ow_v (x_add (k := .i64) (a := (w64 ((w64 ((w64 (v3_t_28 + (w64 (Int.tdiv v1_t_31 (min (w64 (1 + (w64 (Int.tmod x5 3)))) r1.1))))) - (w64 (Int.tdiv (w64 ((min (w64 (1 + (w64 (Int.tmod x6 3)))) r1.2.1) - 1)) 2)))) * r1.1))) (b := (w64 ((w64 (v2_t_29 + (Int.tmod v1_t_31 (min (w64 (1 + (w64 (Int.tmod x5 3)))) r1.1)))) - (w64 (Int.tdiv (w64 ((min (w64 (1 + (w64 (Int.tmod x5 3)))) r1.1) - 1)) 2))))) (frL_get rfl hL5) (frL_get rfl hL6)) rfl ?_
                                exact ow_nil ⟨rfl, rfl, Iq, hleq, frL_set rfl rfl, hs⟩
                              · rintro L f w ⟨hL1, hL7, _⟩ hL ⟨Iq, hleq, rfl, hs⟩
                                replace hx2 := hx2.mono hleq
                                replace hR7 := hR7.mono hleq
                                replace hR155 := hR155.mono hleq
                                replace hR162 := hR162.mono hleq
                                replace hR165 := hR165.mono hleq
                                refine ow_index (i := (w64 ((w64 ((w64 ((w64 (v3_t_28 + (w64 (Int.tdiv v1_t_31 (min (w64 (1 + (w64 (Int.tmod x5 3)))) r1.1))))) - (w64 (Int.tdiv (w64 ((min (w64 (1 + (w64 (Int.tmod x6 3)))) r1.2.1) - 1)) 2)))) * r1.1)) + (w64 ((w64 (v2_t_29 + (Int.tmod v1_t_31 (min (w64 (1 + (w64 (Int.tmod x5 3)))) r1.1)))) - (w64 (Int.tdiv (w64 ((min (w64 (1 + (w64 (Int.tmod x5 3)))) r1.1) - 1)) 2))))))) sl24 ty3 (frL_get rfl hL1) (frL_get rfl hL7) hg20486.1 hg20486.2 (Rs.some hR7 (by have := hg20486; omega)) ?_
                                exact ow_nil ⟨rfl, rfl, Iq, hleq, frL_set rfl rfl, hs⟩
                              · rintro L f w ⟨hL8, _⟩ hL ⟨Iq, hleq, rfl, hs⟩
                                replace hx2 := hx2.mono hleq
                                replace hR7 := hR7.mono hleq
                                replace hR155 := hR155.mono hleq
                                replace hR162 := hR162.mono hleq
                                replace hR165 := hR165.mono hleq
                                refine ow_loadR (p := (w64 ((w64 ((w64 ((w64 (v3_t_28 + (w64 (Int.tdiv v1_t_31 (min (w64 (1 + (w64 (Int.tmod x5 3)))) r1.1))))) - (w64 (Int.tdiv (w64 ((min (w64 (1 + (w64 (Int.tmod x6 3)))) r1.2.1) - 1)) 2)))) * r1.1)) + (w64 ((w64 (v2_t_29 + (Int.tmod v1_t_31 (min (w64 (1 + (w64 (Int.tmod x5 3)))) r1.1)))) - (w64 (Int.tdiv (w64 ((min (w64 (1 + (w64 (Int.tmod x5 3)))) r1.1) - 1)) 2)))))).toNat * 1) (vs := [.int .i64 (at' r1.2.2 (w64 ((w64 ((w64 ((w64 (v3_t_28 + (w64 (Int.tdiv v1_t_31 (min (w64 (1 + (w64 (Int.tmod x5 3)))) r1.1))))) - (w64 (Int.tdiv (w64 ((min (w64 (1 + (w64 (Int.tmod x6 3)))) r1.2.1) - 1)) 2)))) * r1.1)) + (w64 ((w64 (v2_t_29 + (Int.tmod v1_t_31 (min (w64 (1 + (w64 (Int.tmod x5 3)))) r1.1)))) - (w64 (Int.tdiv (w64 ((min (w64 (1 + (w64 (Int.tmod x5 3)))) r1.1) - 1)) 2)))))))]) (v := .int .i64 (at' r1.2.2 (w64 ((w64 ((w64 ((w64 (v3_t_28 + (w64 (Int.tdiv v1_t_31 (min (w64 (1 + (w64 (Int.tmod x5 3)))) r1.1))))) - (w64 (Int.tdiv (w64 ((min (w64 (1 + (w64 (Int.tmod x6 3)))) r1.2.1) - 1)) 2)))) * r1.1)) + (w64 ((w64 (v2_t_29 + (Int.tmod v1_t_31 (min (w64 (1 + (w64 (Int.tmod x5 3)))) r1.1)))) - (w64 (Int.tdiv (w64 ((min (w64 (1 + (w64 (Int.tmod x5 3)))) r1.1) - 1)) 2)))))))) hs hR7 (frL_get rfl hL8) ty3 (flat_at (enc := e64) (sz := 1) (fun _ => rfl) r1.2.2 (w64 ((w64 ((w64 ((w64 (v3_t_28 + (w64 (Int.tdiv v1_t_31 (min (w64 (1 + (w64 (Int.tmod x5 3)))) r1.1))))) - (w64 (Int.tdiv (w64 ((min (w64 (1 + (w64 (Int.tmod x6 3)))) r1.2.1) - 1)) 2)))) * r1.1)) + (w64 ((w64 (v2_t_29 + (Int.tmod v1_t_31 (min (w64 (1 + (w64 (Int.tmod x5 3)))) r1.1)))) - (w64 (Int.tdiv (w64 ((min (w64 (1 + (w64 (Int.tmod x5 3)))) r1.1) - 1)) 2)))))) hg20486.1 hg20486.2 0 1 (by decide)) rfl rfl ?_
                                exact ow_nil ⟨rfl, rfl, Iq, hleq, frL_set rfl rfl, hs⟩
                              · rintro L f w _ hL ⟨Iq, hleq, rfl, hs⟩
                                replace hx2 := hx2.mono hleq
                                replace hR7 := hR7.mono hleq
                                replace hR155 := hR155.mono hleq
                                replace hR162 := hR162.mono hleq
                                replace hR165 := hR165.mono hleq
                                refine ow_field (b := b10) (o := 0) fl28_2 ht18_b20481 ?_
                                exact ow_nil ⟨rfl, rfl, Iq, hleq, frL_set rfl rfl, hs⟩
                              · rintro L f w ⟨hL10, _⟩ hL ⟨Iq, hleq, rfl, hs⟩
                                replace hx2 := hx2.mono hleq
                                replace hR7 := hR7.mono hleq
                                replace hR155 := hR155.mono hleq
                                replace hR162 := hR162.mono hleq
                                replace hR165 := hR165.mono hleq
                                refine ow_load (k := 2) (vs := [.slice a_o_nb_r11_2 o108.length c_o_nb_r11_2]) (v := .slice a_o_nb_r11_2 o108.length c_o_nb_r11_2) hs rfl (frL_get rfl hL10) ty24 rfl rfl rfl ?_
                                exact ow_nil ⟨rfl, rfl, Iq, hleq, frL_set rfl rfl, hs⟩
                              · rintro L f w _ hL ⟨Iq, hleq, rfl, hs⟩
                                replace hx2 := hx2.mono hleq
                                replace hR7 := hR7.mono hleq
                                replace hR155 := hR155.mono hleq
                                replace hR162 := hR162.mono hleq
                                replace hR165 := hR165.mono hleq
                                refine ow_v (x_move (v := .int .i64 v1_t_31) ht31_b20481) rfl ?_
                                exact ow_nil ⟨rfl, rfl, Iq, hleq, frL_set rfl rfl, hs⟩
                              · rintro L f w ⟨hL11, hL12, _⟩ hL ⟨Iq, hleq, rfl, hs⟩
                                replace hx2 := hx2.mono hleq
                                replace hR7 := hR7.mono hleq
                                replace hR155 := hR155.mono hleq
                                replace hR162 := hR162.mono hleq
                                replace hR165 := hR165.mono hleq
                                refine ow_index (i := v1_t_31) sl24 ty3 (frL_get rfl hL11) (frL_get rfl hL12) hg20487.1 hg20487.2 (Rs.some hR155 (by have := hg20487; omega)) ?_
                                exact ow_nil ⟨rfl, rfl, Iq, hleq, frL_set rfl rfl, hs⟩
                              · rintro L f w ⟨hL13, _⟩ hL ⟨Iq, hleq, rfl, hs⟩
                                replace hx2 := hx2.mono hleq
                                replace hR7 := hR7.mono hleq
                                replace hR155 := hR155.mono hleq
                                replace hR162 := hR162.mono hleq
                                replace hR165 := hR165.mono hleq
                                refine ow_loadR (p := v1_t_31.toNat * 1) (vs := [.int .i64 (at' o108 v1_t_31)]) (v := .int .i64 (at' o108 v1_t_31)) hs hR155 (frL_get rfl hL13) ty3 (flat_at (enc := e64) (sz := 1) (fun _ => rfl) o108 v1_t_31 hg20487.1 hg20487.2 0 1 (by decide)) rfl rfl ?_
                                exact ow_nil ⟨rfl, rfl, Iq, hleq, frL_set rfl rfl, hs⟩
                              · rintro L f w ⟨hL9, hL14, _⟩ hL ⟨Iq, hleq, rfl, hs⟩
                                replace hx2 := hx2.mono hleq
                                replace hR7 := hR7.mono hleq
                                replace hR155 := hR155.mono hleq
                                replace hR162 := hR162.mono hleq
                                replace hR165 := hR165.mono hleq
                                refine ow_v (x_sub (k := .i64) (a := (at' r1.2.2 (w64 ((w64 ((w64 ((w64 (v3_t_28 + (w64 (Int.tdiv v1_t_31 (min (w64 (1 + (w64 (Int.tmod x5 3)))) r1.1))))) - (w64 (Int.tdiv (w64 ((min (w64 (1 + (w64 (Int.tmod x6 3)))) r1.2.1) - 1)) 2)))) * r1.1)) + (w64 ((w64 (v2_t_29 + (Int.tmod v1_t_31 (min (w64 (1 + (w64 (Int.tmod x5 3)))) r1.1)))) - (w64 (Int.tdiv (w64 ((min (w64 (1 + (w64 (Int.tmod x5 3)))) r1.1) - 1)) 2)))))))) (b := (at' o108 v1_t_31)) (frL_get rfl hL9) (frL_get rfl hL14)) rfl ?_
                                exact ow_nil ⟨rfl, rfl, Iq, hleq, frL_set rfl rfl, hs⟩
                              · rintro L f w ⟨hL15, hL0, hL1, hL2, hL3, hL4, hL5, hL6, hL7, hL8, hL9, hL10, hL11, hL12, hL13, hL14, _, _⟩ hL ⟨Iq, hleq, rfl, hs⟩
                                replace hx2 := hx2.mono hleq
                                replace hR7 := hR7.mono hleq
                                replace hR155 := hR155.mono hleq
                                replace hR162 := hR162.mono hleq
                                replace hR165 := hR165.mono hleq
                                refine ow_v (x_assign (v := .int .i64 (w64 ((at' r1.2.2 (w64 ((w64 ((w64 ((w64 (v3_t_28 + (w64 (Int.tdiv v1_t_31 (min (w64 (1 + (w64 (Int.tmod x5 3)))) r1.1))))) - (w64 (Int.tdiv (w64 ((min (w64 (1 + (w64 (Int.tmod x6 3)))) r1.2.1) - 1)) 2)))) * r1.1)) + (w64 ((w64 (v2_t_29 + (Int.tmod v1_t_31 (min (w64 (1 + (w64 (Int.tmod x5 3)))) r1.1)))) - (w64 (Int.tdiv (w64 ((min (w64 (1 + (w64 (Int.tmod x5 3)))) r1.1) - 1)) 2))))))) - (at' o108 v1_t_31)))) (frL_get rfl hL15)) rfl ?_
                                exact ow_nil ⟨rfl, rfl, Iq, hleq, frL_set rfl rfl, hs⟩
                              rintro L f w hall ⟨I20489, hle20488, rfl, hs⟩
                              rw [frL_tt _ rfl hall]
                              replace hx2 := hx2.mono hle20488
                              replace hR7 := hR7.mono hle20488
                              replace hR155 := hR155.mono hle20488
                              replace hR162 := hR162.mono hle20488
                              replace hR165 := hR165.mono hle20488
                              refine seqK_n ?_
                              refine cw_region ?_
                              refine ow_v (x_move (v := .int .i64 v1_t_30) ht30_b20481) rfl ?_
                              refine ow_v (x_move (v := .int .i64 (w64 ((at' r1.2.2 (w64 ((w64 ((w64 ((w64 (v3_t_28 + (w64 (Int.tdiv v1_t_31 (min (w64 (1 + (w64 (Int.tmod x5 3)))) r1.1))))) - (w64 (Int.tdiv (w64 ((min (w64 (1 + (w64 (Int.tmod x6 3)))) r1.2.1) - 1)) 2)))) * r1.1)) + (w64 ((w64 (v2_t_29 + (Int.tmod v1_t_31 (min (w64 (1 + (w64 (Int.tmod x5 3)))) r1.1)))) - (w64 (Int.tdiv (w64 ((min (w64 (1 + (w64 (Int.tmod x5 3)))) r1.1) - 1)) 2))))))) - (at' o108 v1_t_31)))) rfl) rfl ?_
                              refine ow_v (x_move (v := .int .i64 (w64 ((at' r1.2.2 (w64 ((w64 ((w64 ((w64 (v3_t_28 + (w64 (Int.tdiv v1_t_31 (min (w64 (1 + (w64 (Int.tmod x5 3)))) r1.1))))) - (w64 (Int.tdiv (w64 ((min (w64 (1 + (w64 (Int.tmod x6 3)))) r1.2.1) - 1)) 2)))) * r1.1)) + (w64 ((w64 (v2_t_29 + (Int.tmod v1_t_31 (min (w64 (1 + (w64 (Int.tmod x5 3)))) r1.1)))) - (w64 (Int.tdiv (w64 ((min (w64 (1 + (w64 (Int.tmod x5 3)))) r1.1) - 1)) 2))))))) - (at' o108 v1_t_31)))) rfl) rfl ?_
                              refine ow_v (x_neg (k := .i64) (a := (w64 ((at' r1.2.2 (w64 ((w64 ((w64 ((w64 (v3_t_28 + (w64 (Int.tdiv v1_t_31 (min (w64 (1 + (w64 (Int.tmod x5 3)))) r1.1))))) - (w64 (Int.tdiv (w64 ((min (w64 (1 + (w64 (Int.tmod x6 3)))) r1.2.1) - 1)) 2)))) * r1.1)) + (w64 ((w64 (v2_t_29 + (Int.tmod v1_t_31 (min (w64 (1 + (w64 (Int.tmod x5 3)))) r1.1)))) - (w64 (Int.tdiv (w64 ((min (w64 (1 + (w64 (Int.tmod x5 3)))) r1.1) - 1)) 2))))))) - (at' o108 v1_t_31)))) rfl) rfl ?_
                              refine ow_v (x_max2 (k := .i64) (a := (w64 ((at' r1.2.2 (w64 ((w64 ((w64 ((w64 (v3_t_28 + (w64 (Int.tdiv v1_t_31 (min (w64 (1 + (w64 (Int.tmod x5 3)))) r1.1))))) - (w64 (Int.tdiv (w64 ((min (w64 (1 + (w64 (Int.tmod x6 3)))) r1.2.1) - 1)) 2)))) * r1.1)) + (w64 ((w64 (v2_t_29 + (Int.tmod v1_t_31 (min (w64 (1 + (w64 (Int.tmod x5 3)))) r1.1)))) - (w64 (Int.tdiv (w64 ((min (w64 (1 + (w64 (Int.tmod x5 3)))) r1.1) - 1)) 2))))))) - (at' o108 v1_t_31)))) (b := (w64 (0 - (w64 ((at' r1.2.2 (w64 ((w64 ((w64 ((w64 (v3_t_28 + (w64 (Int.tdiv v1_t_31 (min (w64 (1 + (w64 (Int.tmod x5 3)))) r1.1))))) - (w64 (Int.tdiv (w64 ((min (w64 (1 + (w64 (Int.tmod x6 3)))) r1.2.1) - 1)) 2)))) * r1.1)) + (w64 ((w64 (v2_t_29 + (Int.tmod v1_t_31 (min (w64 (1 + (w64 (Int.tmod x5 3)))) r1.1)))) - (w64 (Int.tdiv (w64 ((min (w64 (1 + (w64 (Int.tmod x5 3)))) r1.1) - 1)) 2))))))) - (at' o108 v1_t_31)))))) rfl rfl) rfl ?_
                              refine ow_v (x_add (k := .i64) (a := v1_t_30) (b := (max (w64 ((at' r1.2.2 (w64 ((w64 ((w64 ((w64 (v3_t_28 + (w64 (Int.tdiv v1_t_31 (min (w64 (1 + (w64 (Int.tmod x5 3)))) r1.1))))) - (w64 (Int.tdiv (w64 ((min (w64 (1 + (w64 (Int.tmod x6 3)))) r1.2.1) - 1)) 2)))) * r1.1)) + (w64 ((w64 (v2_t_29 + (Int.tmod v1_t_31 (min (w64 (1 + (w64 (Int.tmod x5 3)))) r1.1)))) - (w64 (Int.tdiv (w64 ((min (w64 (1 + (w64 (Int.tmod x5 3)))) r1.1) - 1)) 2))))))) - (at' o108 v1_t_31))) (w64 (0 - (w64 ((at' r1.2.2 (w64 ((w64 ((w64 ((w64 (v3_t_28 + (w64 (Int.tdiv v1_t_31 (min (w64 (1 + (w64 (Int.tmod x5 3)))) r1.1))))) - (w64 (Int.tdiv (w64 ((min (w64 (1 + (w64 (Int.tmod x6 3)))) r1.2.1) - 1)) 2)))) * r1.1)) + (w64 ((w64 (v2_t_29 + (Int.tmod v1_t_31 (min (w64 (1 + (w64 (Int.tmod x5 3)))) r1.1)))) - (w64 (Int.tdiv (w64 ((min (w64 (1 + (w64 (Int.tmod x5 3)))) r1.1) - 1)) 2))))))) - (at' o108 v1_t_31))))))) rfl rfl) rfl ?_
                              refine ow_v (x_assign (v := .int .i64 (w64 (v1_t_30 + (max (w64 ((at' r1.2.2 (w64 ((w64 ((w64 ((w64 (v3_t_28 + (w64 (Int.tdiv v1_t_31 (min (w64 (1 + (w64 (Int.tmod x5 3)))) r1.1))))) - (w64 (Int.tdiv (w64 ((min (w64 (1 + (w64 (Int.tmod x6 3)))) r1.2.1) - 1)) 2)))) * r1.1)) + (w64 ((w64 (v2_t_29 + (Int.tmod v1_t_31 (min (w64 (1 + (w64 (Int.tmod x5 3)))) r1.1)))) - (w64 (Int.tdiv (w64 ((min (w64 (1 + (w64 (Int.tmod x5 3)))) r1.1) - 1)) 2))))))) - (at' o108 v1_t_31))) (w64 (0 - (w64 ((at' r1.2.2 (w64 ((w64 ((w64 ((w64 (v3_t_28 + (w64 (Int.tdiv v1_t_31 (min (w64 (1 + (w64 (Int.tmod x5 3)))) r1.1))))) - (w64 (Int.tdiv (w64 ((min (w64 (1 + (w64 (Int.tmod x6 3)))) r1.2.1) - 1)) 2)))) * r1.1)) + (w64 ((w64 (v2_t_29 + (Int.tmod v1_t_31 (min (w64 (1 + (w64 (Int.tmod x5 3)))) r1.1)))) - (w64 (Int.tdiv (w64 ((min (w64 (1 + (w64 (Int.tmod x5 3)))) r1.1) - 1)) 2))))))) - (at' o108 v1_t_31))))))))) rfl) rfl ?_
                              refine ow_nil ?_
                              refine blockK_n ?_
                              refine seqK_n ?_
                              refine cw_region ?_
                              refine ow_v (x_move (v := .int .i64 v1_t_31) ht31_b20481) rfl ?_
                              refine ow_v (x_add (k := .i64) (a := v1_t_31) (b := 1) rfl rfl) rfl ?_
                              refine ow_v (x_assign (v := .int .i64 (w64 (v1_t_31 + 1))) rfl) rfl ?_
                              refine ow_nil ?_
                              exact loopK_n ⟨k, Nat.lt_succ_self k, w64 (v1_t_30 + (max (w64 ((at' r1.2.2 (w64 ((w64 ((w64 ((w64 (v3_t_28 + (w64 (Int.tdiv v1_t_31 (min (w64 (1 + (w64 (Int.tmod x5 3)))) r1.1))))) - (w64 (Int.tdiv (w64 ((min (w64 (1 + (w64 (Int.tmod x6 3)))) r1.2.1) - 1)) 2)))) * r1.1)) + (w64 ((w64 (v2_t_29 + (Int.tmod v1_t_31 (min (w64 (1 + (w64 (Int.tmod x5 3)))) r1.1)))) - (w64 (Int.tdiv (w64 ((min (w64 (1 + (w64 (Int.tmod x5 3)))) r1.1) - 1)) 2))))))) - (at' o108 v1_t_31))) (w64 (0 - (w64 ((at' r1.2.2 (w64 ((w64 ((w64 ((w64 (v3_t_28 + (w64 (Int.tdiv v1_t_31 (min (w64 (1 + (w64 (Int.tmod x5 3)))) r1.1))))) - (w64 (Int.tdiv (w64 ((min (w64 (1 + (w64 (Int.tmod x6 3)))) r1.2.1) - 1)) 2)))) * r1.1)) + (w64 ((w64 (v2_t_29 + (Int.tmod v1_t_31 (min (w64 (1 + (w64 (Int.tmod x5 3)))) r1.1)))) - (w64 (Int.tdiv (w64 ((min (w64 (1 + (w64 (Int.tmod x5 3)))) r1.1) - 1)) 2))))))) - (at' o108 v1_t_31))))))), w64 (v1_t_31 + 1), I20489, rfl, (((((hle20467.trans hle20471).trans hle20475).trans hle20479).trans hle20483).trans hle20488), hm, hs, ht16_b20481, ht17_b20481, ht18_b20481, ht19_b20481, ht20_b20481, ht22_b20481, ht23_b20481, ht25_b20481, ht26_b20481, ht27_b20481, ht28_b20481, ht29_b20481, rfl, rfl⟩
                    · rw [if_neg hc20468] at hm
                      refine cw_if_f rfl (decide_eq_false hc20468) ?_
                      refine cw_exit ?_
                      refine seqK_x ?_
                      refine loopK_x ?_
                      refine blockK_hit ?_
                      obtain rfl := Option.some.inj hm
                      refine joinK_n ⟨I20466, rfl, hle20467, hs, ht16_L3, ht17_L3, ht18_L3, ht19_L3, ht20_L3, ht22_L3, ht23_L3, ht25_L3, ht26_L3, ht27_L3, ht28_L3, ht29_L3, ht30_L3⟩
                  · clear hm hs
                    rintro f ds w ⟨I20421, rfl, hle20490, hs, ht16_o20419, ht17_o20419, ht18_o20419, ht19_o20419, ht20_o20419, ht22_o20419, ht23_o20419, ht25_o20419, ht26_o20419, ht27_o20419, ht28_o20419, ht29_o20419, ht30_o20419⟩
                    replace hm := hq20420
                    replace hx2 := hx2.mono hle20490
                    replace hR7 := hR7.mono hle20490
                    replace hR155 := hR155.mono hle20490
                    replace hR162 := hR162.mono hle20490
                    replace hR165 := hR165.mono hle20490
                    refine cw_seq ?_
                    refine cw_seq ?_
                    refine cw_region ?_
                    refine ow_v (x_move (v := .int .i64 o20419) ht30_o20419) rfl ?_
                    refine ow_v (x_move (v := .int .i64 (w64 (Int.tmod x7 1001))) ht22_o20419) rfl ?_
                    refine ow_v (x_leq (k := .i64) (a := o20419) (b := (w64 (Int.tmod x7 1001))) rfl rfl) rfl ?_
                    refine ow_nil ?_
                    refine seqK_n ?_
                    by_cases hc20491 : o20419 ≤ (w64 (Int.tmod x7 1001))
                    · rw [if_pos hc20491] at hm
                      refine cw_if_t rfl (decide_eq_true hc20491) ?_
                      refine cw_region ?_
                      refine ow_v (x_move (v := .slice a_o_nt_25 v2_o_nt_25.length c_o_nt_25) ht25_o20419) rfl ?_
                      refine ow_v (x_move (v := .int .i64 v2_t_29) ht29_o20419) rfl ?_
                      refine ow_v (x_move (v := .int .i64 v3_t_28) ht28_o20419) rfl ?_
                      refine ow_build (vp := [(0, .int .i64 v2_t_29), (1, .int .i64 v3_t_28), (3, .int .i64 2)]) (cs := [.int .i64 v2_t_29, .int .i64 v3_t_28, .int .i64 0, .int .i64 2]) st38 ty38 ⟨rfl, rfl, rfl, rfl, rfl, rfl, trivial⟩ rfl ?_
                      refine ow_v (x_move (v := .int .i64 o20419) ht30_o20419) rfl ?_
                      refine ow_build (vp := [(0, .agg #[.int .i64 v2_t_29, .int .i64 v3_t_28, .int .i64 0, .int .i64 2]), (1, .int .i64 o20419)]) (cs := [.int .i64 v2_t_29, .int .i64 v3_t_28, .int .i64 0, .int .i64 2, .int .i64 o20419]) st40 ty40 ⟨rfl, rfl, rfl, rfl, trivial⟩ rfl ?_
                      refine ow_buildSlice (vp := [(0, .agg #[.int .i64 v2_t_29, .int .i64 v3_t_28, .int .i64 0, .int .i64 2, .int .i64 o20419])]) (cs := [.int .i64 v2_t_29, .int .i64 v3_t_28, .int .i64 0, .int .i64 2, .int .i64 o20419]) hs sl29 ty40 rfl ⟨rfl, rfl, trivial⟩ (by decide) rfl (by decide) ?_
                      clear hs; intro a20494 J20492 w hle20493 hs hR20495
                      replace hx2 := hx2.mono hle20493
                      replace hR7 := hR7.mono hle20493
                      replace hR155 := hR155.mono hle20493
                      replace hR162 := hR162.mono hle20493
                      replace hR165 := hR165.mono hle20493
                      replace hR20495 : Rs J20492 5 a20494 [(v2_t_29, v3_t_28, 0, 2, o20419)].length 1 ([(v2_t_29, v3_t_28, 0, 2, o20419)].flatMap enc40) := hR20495
                      have hg20496 := (ite_some hm).1
                      replace hm := (ite_some hm).2
                      refine ow_appendT (k := 0) (enc := enc40) (X := v2_o_nt_25) (Y := [(v2_t_29, v3_t_28, 0, 2, o20419)]) hs rfl sl29 ty40 el40 rfl rfl rfl hR20495 (fun _ => rfl) hg20496 (by decide) ?_
                      clear hs; intro a20497 c20498 w hs
                      refine ow_v (x_assign (v := .slice a20497 ((v2_o_nt_25 ++ [(v2_t_29, v3_t_28, 0, 2, o20419)]).length) c20498) rfl) rfl ?_
                      refine ow_nil ?_
                      refine seqK_n ?_
                      refine cw_region ?_
                      refine ow_v (x_move (v := .bool v2_t_27) ht27_o20419) rfl ?_
                      refine ow_v (x_move (v := .bool v2_t_27) rfl) rfl ?_
                      obtain ⟨b20499, hmb20499, hm2⟩ := bind_some hm
                      replace hm := hm2; clear hm2
                      refine ow_joinN 23 (fun f ds w => ∃ (I20500 : Im), ds = [] ∧ Im.le J20492 I20500 ∧ Sat I20500 (osl 40 5 a20497 (v2_o_nt_25 ++ [(v2_t_29, v3_t_28, 0, 2, o20419)]).length c20498 ((v2_o_nt_25 ++ [(v2_t_29, v3_t_28, 0, 2, o20419)]).flatMap enc40) :: blk b166 32 [.slice a160 r156.1.length c161, .slice a163 r156.2.1.length c164] :: blk b10 28 [.int .i64 (min (w64 (1 + (w64 (Int.tmod x5 3)))) r1.1), .int .i64 (min (w64 (1 + (w64 (Int.tmod x6 3)))) r1.2.1), .slice a_o_nb_r11_2 o108.length c_o_nb_r11_2] :: blk b8 26 [.int .i64 r1.1, .int .i64 r1.2.1, .slice a5 r1.2.2.length c6] :: F) w ∧ f 253 = .bool b20499 ∧ f 16 = .bool false ∧ f 17 = .pointer (some ⟨b8, 0, none⟩) ∧ f 18 = .pointer (some ⟨b10, 0, none⟩) ∧ f 19 = .int .i64 (Int.tmod (w64 (x3)) (w64 ((w64 (r1.1 - (min (w64 (1 + (w64 (Int.tmod x5 3)))) r1.1))) + 1))) ∧ f 20 = .int .i64 (Int.tmod (w64 (x4)) (w64 ((w64 (r1.2.1 - (min (w64 (1 + (w64 (Int.tmod x6 3)))) r1.2.1))) + 1))) ∧ f 22 = .int .i64 (w64 (Int.tmod x7 1001)) ∧ f 23 = .pointer (some ⟨b166, 0, none⟩) ∧ f 25 = .slice a20497 ((v2_o_nt_25 ++ [(v2_t_29, v3_t_28, 0, 2, o20419)]).length) c20498 ∧ f 26 = .slice none 0 0 ∧ f 27 = .bool v2_t_27 ∧ f 28 = .int .i64 v3_t_28 ∧ f 29 = .int .i64 v2_t_29) ?_ ?_
                      · by_cases hc20502 : v2_t_27 = true
                        · rw [if_pos hc20502] at hmb20499
                          refine ow_no (b := true) (yl_of rfl rfl hc20502) rfl ?_
                          refine ow_no (b := true) (yl_of rfl rfl hc20502) rfl ?_
                          refine ow_no (b := true) (yl_of rfl rfl hc20502) rfl ?_
                          refine ow_no' (yl_undef rfl rfl) ?_
                          refine ow_no' (yl_undef rfl rfl) ?_
                          refine ow_no' (yl_undef rfl rfl) ?_
                          refine ow_no' (yl_undef rfl rfl) ?_
                          refine ow_no' (yl_undef rfl rfl) ?_
                          refine ow_no' (yl_undef rfl rfl) ?_
                          refine ow_no' (yl_undef rfl rfl) ?_
                          refine ow_no' (yl_undef rfl rfl) ?_
                          refine ow_no (b := true) (yl_of rfl rfl hc20502) rfl ?_
                          refine ow_no (b := true) (yl_of rfl rfl hc20502) rfl ?_
                          refine ow_no' (yl_undef rfl rfl) ?_
                          refine ow_no' (yl_undef rfl rfl) ?_
                          refine ow_no' (yl_undef rfl rfl) ?_
                          refine ow_no' (yl_undef rfl rfl) ?_
                          refine ow_no' (yl_undef rfl rfl) ?_
                          refine ow_no' (yl_undef rfl rfl) ?_
                          refine ow_no' (yl_undef rfl rfl) ?_
                          refine ow_no' (yl_undef rfl rfl) ?_
                          refine ow_no (b := true) (yl_of rfl rfl hc20502) rfl ?_
                          refine ow_v (x_pick_t (v := .bool true) ((rfl : ev _ _ _ = _).trans (congrArg Value.bool hc20502)) rfl) rfl ?_
                          refine ow_nil ?_
                          obtain rfl := Option.some.inj hmb20499
                          exact ⟨J20492, rfl, Im.le.refl _, hs, rfl, ht16_o20419, ht17_o20419, ht18_o20419, ht19_o20419, ht20_o20419, ht22_o20419, ht23_o20419, rfl, ht26_o20419, ht27_o20419, ht28_o20419, ht29_o20419⟩
                        · rw [if_neg hc20502] at hmb20499
                          refine ow_go (yl_of rfl rfl (Bool.eq_false_iff.2 hc20502)) ?_
                          refine ow_v (x_move (v := .int .i64 o20419) ht30_o20419) rfl ?_
                          refine ow_go (yl_of rfl rfl (Bool.eq_false_iff.2 hc20502)) ?_
                          refine ow_v (x_eql (k := .i64) (a := o20419) (b := 0) rfl rfl) rfl ?_
                          refine ow_go (yl_of rfl rfl (Bool.eq_false_iff.2 hc20502)) ?_
                          refine ow_v (x_move (v := .bool (decide (o20419 = 0))) rfl) rfl ?_
                          by_cases hc20503 : o20419 = 0
                          · rw [if_pos hc20503] at hmb20499
                            refine ow_go (yl_of rfl rfl (decide_eq_true hc20503)) ?_
                            refine ow_v (x_move (v := .int .i64 v2_t_29) ht29_o20419) rfl ?_
                            refine ow_go (yl_of rfl rfl (decide_eq_true hc20503)) ?_
                            refine ow_v (x_move (v := .int .i64 (Int.tmod (w64 (x3)) (w64 ((w64 (r1.1 - (min (w64 (1 + (w64 (Int.tmod x5 3)))) r1.1))) + 1)))) ht19_o20419) rfl ?_
                            refine ow_go (yl_of rfl rfl (decide_eq_true hc20503)) ?_
                            refine ow_field (b := b10) (o := 0) fl28_0 ht18_o20419 ?_
                            refine ow_go (yl_of rfl rfl (decide_eq_true hc20503)) ?_
                            refine ow_load (k := 2) (vs := [.int .i64 (min (w64 (1 + (w64 (Int.tmod x5 3)))) r1.1)]) (v := .int .i64 (min (w64 (1 + (w64 (Int.tmod x5 3)))) r1.1)) hs rfl rfl ty3 rfl rfl rfl ?_
                            refine ow_go (yl_of rfl rfl (decide_eq_true hc20503)) ?_
                            refine ow_v (x_sub (k := .i64) (a := (min (w64 (1 + (w64 (Int.tmod x5 3)))) r1.1)) (b := 1) rfl rfl) rfl ?_
                            refine ow_go (yl_of rfl rfl (decide_eq_true hc20503)) ?_
                            refine ow_v (x_quo (k := .i64) (a := (w64 ((min (w64 (1 + (w64 (Int.tmod x5 3)))) r1.1) - 1))) (b := 2) rfl rfl (by decide)) rfl ?_
                            refine ow_go (yl_of rfl rfl (decide_eq_true hc20503)) ?_
                            refine ow_v (x_add (k := .i64) (a := (Int.tmod (w64 (x3)) (w64 ((w64 (r1.1 - (min (w64 (1 + (w64 (Int.tmod x5 3)))) r1.1))) + 1)))) (b := (w64 (Int.tdiv (w64 ((min (w64 (1 + (w64 (Int.tmod x5 3)))) r1.1) - 1)) 2))) rfl rfl) rfl ?_
                            refine ow_go (yl_of rfl rfl (decide_eq_true hc20503)) ?_
                            refine ow_v (x_eql (k := .i64) (a := v2_t_29) (b := (w64 ((Int.tmod (w64 (x3)) (w64 ((w64 (r1.1 - (min (w64 (1 + (w64 (Int.tmod x5 3)))) r1.1))) + 1))) + (w64 (Int.tdiv (w64 ((min (w64 (1 + (w64 (Int.tmod x5 3)))) r1.1) - 1)) 2))))) rfl rfl) rfl ?_
                            refine ow_go (yl_of rfl rfl (Bool.eq_false_iff.2 hc20502)) ?_
                            refine ow_v (x_pick_t (v := .bool (decide (v2_t_29 = (w64 ((Int.tmod (w64 (x3)) (w64 ((w64 (r1.1 - (min (w64 (1 + (w64 (Int.tmod x5 3)))) r1.1))) + 1))) + (w64 (Int.tdiv (w64 ((min (w64 (1 + (w64 (Int.tmod x5 3)))) r1.1) - 1)) 2))))))) ((rfl : ev _ _ _ = _).trans (congrArg Value.bool (decide_eq_true hc20503))) rfl) rfl ?_
                            refine ow_go (yl_of rfl rfl (Bool.eq_false_iff.2 hc20502)) ?_
                            refine ow_v (x_move (v := .bool (decide (v2_t_29 = (w64 ((Int.tmod (w64 (x3)) (w64 ((w64 (r1.1 - (min (w64 (1 + (w64 (Int.tmod x5 3)))) r1.1))) + 1))) + (w64 (Int.tdiv (w64 ((min (w64 (1 + (w64 (Int.tmod x5 3)))) r1.1) - 1)) 2))))))) rfl) rfl ?_
                            by_cases hc20504 : v2_t_29 = (w64 ((Int.tmod (w64 (x3)) (w64 ((w64 (r1.1 - (min (w64 (1 + (w64 (Int.tmod x5 3)))) r1.1))) + 1))) + (w64 (Int.tdiv (w64 ((min (w64 (1 + (w64 (Int.tmod x5 3)))) r1.1) - 1)) 2))))
                            · rw [if_pos hc20504] at hmb20499
                              refine ow_go (yl_of rfl rfl (decide_eq_true hc20504)) ?_
                              refine ow_v (x_move (v := .int .i64 v3_t_28) ht28_o20419) rfl ?_
                              refine ow_go (yl_of rfl rfl (decide_eq_true hc20504)) ?_
                              refine ow_v (x_move (v := .int .i64 (Int.tmod (w64 (x4)) (w64 ((w64 (r1.2.1 - (min (w64 (1 + (w64 (Int.tmod x6 3)))) r1.2.1))) + 1)))) ht20_o20419) rfl ?_
                              refine ow_go (yl_of rfl rfl (decide_eq_true hc20504)) ?_
                              refine ow_field (b := b10) (o := 0) fl28_1 ht18_o20419 ?_
                              refine ow_go (yl_of rfl rfl (decide_eq_true hc20504)) ?_
                              refine ow_load (k := 2) (vs := [.int .i64 (min (w64 (1 + (w64 (Int.tmod x6 3)))) r1.2.1)]) (v := .int .i64 (min (w64 (1 + (w64 (Int.tmod x6 3)))) r1.2.1)) hs rfl rfl ty3 rfl rfl rfl ?_
                              refine ow_go (yl_of rfl rfl (decide_eq_true hc20504)) ?_
                              refine ow_v (x_sub (k := .i64) (a := (min (w64 (1 + (w64 (Int.tmod x6 3)))) r1.2.1)) (b := 1) rfl rfl) rfl ?_
                              refine ow_go (yl_of rfl rfl (decide_eq_true hc20504)) ?_
                              refine ow_v (x_quo (k := .i64) (a := (w64 ((min (w64 (1 + (w64 (Int.tmod x6 3)))) r1.2.1) - 1))) (b := 2) rfl rfl (by decide)) rfl ?_
                              refine ow_go (yl_of rfl rfl (decide_eq_true hc20504)) ?_
                              refine ow_v (x_add (k := .i64) (a := (Int.tmod (w64 (x4)) (w64 ((w64 (r1.2.1 - (min (w64 (1 + (w64 (Int.tmod x6 3)))) r1.2.1))) + 1)))) (b := (w64 (Int.tdiv (w64 ((min (w64 (1 + (w64 (Int.tmod x6 3)))) r1.2.1) - 1)) 2))) rfl rfl) rfl ?_
                              refine ow_go (yl_of rfl rfl (decide_eq_true hc20504)) ?_
                              refine ow_v (x_eql (k := .i64) (a := v3_t_28) (b := (w64 ((Int.tmod (w64 (x4)) (w64 ((w64 (r1.2.1 - (min (w64 (1 + (w64 (Int.tmod x6 3)))) r1.2.1))) + 1))) + (w64 (Int.tdiv (w64 ((min (w64 (1 + (w64 (Int.tmod x6 3)))) r1.2.1) - 1)) 2))))) rfl rfl) rfl ?_
                              refine ow_go (yl_of rfl rfl (Bool.eq_false_iff.2 hc20502)) ?_
                              refine ow_v (x_pick_t (v := .bool (decide (v3_t_28 = (w64 ((Int.tmod (w64 (x4)) (w64 ((w64 (r1.2.1 - (min (w64 (1 + (w64 (Int.tmod x6 3)))) r1.2.1))) + 1))) + (w64 (Int.tdiv (w64 ((min (w64 (1 + (w64 (Int.tmod x6 3)))) r1.2.1) - 1)) 2))))))) ((rfl : ev _ _ _ = _).trans (congrArg Value.bool (decide_eq_true hc20504))) rfl) rfl ?_
                              refine ow_v (x_pick_f (v := .bool (decide (v3_t_28 = (w64 ((Int.tmod (w64 (x4)) (w64 ((w64 (r1.2.1 - (min (w64 (1 + (w64 (Int.tmod x6 3)))) r1.2.1))) + 1))) + (w64 (Int.tdiv (w64 ((min (w64 (1 + (w64 (Int.tmod x6 3)))) r1.2.1) - 1)) 2))))))) ((rfl : ev _ _ _ = _).trans (congrArg Value.bool (Bool.eq_false_iff.2 hc20502))) rfl) rfl ?_
                              refine ow_nil ?_
                              obtain rfl := Option.some.inj hmb20499
                              exact ⟨J20492, rfl, Im.le.refl _, hs, rfl, ht16_o20419, ht17_o20419, ht18_o20419, ht19_o20419, ht20_o20419, ht22_o20419, ht23_o20419, rfl, ht26_o20419, ht27_o20419, ht28_o20419, ht29_o20419⟩
                            · rw [if_neg hc20504] at hmb20499
                              refine ow_no (b := false) (yl_of rfl rfl (decide_eq_false hc20504)) rfl ?_
                              refine ow_no (b := false) (yl_of rfl rfl (decide_eq_false hc20504)) rfl ?_
                              refine ow_no (b := false) (yl_of rfl rfl (decide_eq_false hc20504)) rfl ?_
                              refine ow_no (b := false) (yl_of rfl rfl (decide_eq_false hc20504)) rfl ?_
                              refine ow_no (b := false) (yl_of rfl rfl (decide_eq_false hc20504)) rfl ?_
                              refine ow_no (b := false) (yl_of rfl rfl (decide_eq_false hc20504)) rfl ?_
                              refine ow_no (b := false) (yl_of rfl rfl (decide_eq_false hc20504)) rfl ?_
                              refine ow_no (b := false) (yl_of rfl rfl (decide_eq_false hc20504)) rfl ?_
                              refine ow_go (yl_of rfl rfl (Bool.eq_false_iff.2 hc20502)) ?_
                              refine ow_v (x_pick_f (v := .bool false) ((rfl : ev _ _ _ = _).trans (congrArg Value.bool (decide_eq_false hc20504))) rfl) rfl ?_
                              refine ow_v (x_pick_f (v := .bool false) ((rfl : ev _ _ _ = _).trans (congrArg Value.bool (Bool.eq_false_iff.2 hc20502))) rfl) rfl ?_
                              refine ow_nil ?_
                              obtain rfl := Option.some.inj hmb20499
                              exact ⟨J20492, rfl, Im.le.refl _, hs, rfl, ht16_o20419, ht17_o20419, ht18_o20419, ht19_o20419, ht20_o20419, ht22_o20419, ht23_o20419, rfl, ht26_o20419, ht27_o20419, ht28_o20419, ht29_o20419⟩
                          · rw [if_neg hc20503] at hmb20499
                            refine ow_no (b := false) (yl_of rfl rfl (decide_eq_false hc20503)) rfl ?_
                            refine ow_no (b := false) (yl_of rfl rfl (decide_eq_false hc20503)) rfl ?_
                            refine ow_no (b := false) (yl_of rfl rfl (decide_eq_false hc20503)) rfl ?_
                            refine ow_no (b := false) (yl_of rfl rfl (decide_eq_false hc20503)) rfl ?_
                            refine ow_no (b := false) (yl_of rfl rfl (decide_eq_false hc20503)) rfl ?_
                            refine ow_no (b := false) (yl_of rfl rfl (decide_eq_false hc20503)) rfl ?_
                            refine ow_no (b := false) (yl_of rfl rfl (decide_eq_false hc20503)) rfl ?_
                            refine ow_no (b := false) (yl_of rfl rfl (decide_eq_false hc20503)) rfl ?_
                            refine ow_go (yl_of rfl rfl (Bool.eq_false_iff.2 hc20502)) ?_
                            refine ow_v (x_pick_f (v := .bool false) ((rfl : ev _ _ _ = _).trans (congrArg Value.bool (decide_eq_false hc20503))) rfl) rfl ?_
                            refine ow_go (yl_of rfl rfl (Bool.eq_false_iff.2 hc20502)) ?_
                            refine ow_v (x_move (v := .bool false) rfl) rfl ?_
                            refine ow_no (b := false) (yl_of rfl rfl rfl) rfl ?_
                            refine ow_no (b := false) (yl_of rfl rfl rfl) rfl ?_
                            refine ow_no (b := false) (yl_of rfl rfl rfl) rfl ?_
                            refine ow_no (b := false) (yl_of rfl rfl rfl) rfl ?_
                            refine ow_no (b := false) (yl_of rfl rfl rfl) rfl ?_
                            refine ow_no (b := false) (yl_of rfl rfl rfl) rfl ?_
                            refine ow_no (b := false) (yl_of rfl rfl rfl) rfl ?_
                            refine ow_no (b := false) (yl_of rfl rfl rfl) rfl ?_
                            refine ow_go (yl_of rfl rfl (Bool.eq_false_iff.2 hc20502)) ?_
                            refine ow_v (x_pick_f (v := .bool false) rfl rfl) rfl ?_
                            refine ow_v (x_pick_f (v := .bool false) ((rfl : ev _ _ _ = _).trans (congrArg Value.bool (Bool.eq_false_iff.2 hc20502))) rfl) rfl ?_
                            refine ow_nil ?_
                            obtain rfl := Option.some.inj hmb20499
                            exact ⟨J20492, rfl, Im.le.refl _, hs, rfl, ht16_o20419, ht17_o20419, ht18_o20419, ht19_o20419, ht20_o20419, ht22_o20419, ht23_o20419, rfl, ht26_o20419, ht27_o20419, ht28_o20419, ht29_o20419⟩
                      · clear hmb20499 hs
                        rintro f ds w ⟨I20500, rfl, hle20501, hs, htbb20499, ht16_b20499, ht17_b20499, ht18_b20499, ht19_b20499, ht20_b20499, ht22_b20499, ht23_b20499, ht25_b20499, ht26_b20499, ht27_b20499, ht28_b20499, ht29_b20499⟩
                        replace hx2 := hx2.mono hle20501
                        replace hR7 := hR7.mono hle20501
                        replace hR155 := hR155.mono hle20501
                        replace hR162 := hR162.mono hle20501
                        replace hR165 := hR165.mono hle20501
                        replace hR20495 := hR20495.mono hle20501
                        refine ow_v (x_assign (v := .bool b20499) htbb20499) rfl ?_
                        refine ow_nil ?_
                        refine blockK_n ?_
                        obtain rfl := Option.some.inj hm
                        refine joinK_n ⟨a20497, c20498, I20500, rfl, ((hle20490.trans hle20493).trans hle20501), hs, ht16_b20499, ht17_b20499, ht18_b20499, ht19_b20499, ht20_b20499, ht22_b20499, ht23_b20499, ht25_b20499, ht26_b20499, rfl, ht28_b20499, ht29_b20499⟩
                    · rw [if_neg hc20491] at hm
                      refine cw_if_f rfl (decide_eq_false hc20491) ?_
                      refine cw_skip ?_
                      refine seqK_n ?_
                      refine cw_region ?_
                      refine ow_v (x_move (v := .bool v2_t_27) ht27_o20419) rfl ?_
                      refine ow_v (x_move (v := .bool v2_t_27) rfl) rfl ?_
                      obtain ⟨b20505, hmb20505, hm2⟩ := bind_some hm
                      replace hm := hm2; clear hm2
                      refine ow_joinN 23 (fun f ds w => ∃ (I20506 : Im), ds = [] ∧ Im.le I20421 I20506 ∧ Sat I20506 (osl 40 5 a_o_nt_25 v2_o_nt_25.length c_o_nt_25 (v2_o_nt_25.flatMap enc40) :: blk b166 32 [.slice a160 r156.1.length c161, .slice a163 r156.2.1.length c164] :: blk b10 28 [.int .i64 (min (w64 (1 + (w64 (Int.tmod x5 3)))) r1.1), .int .i64 (min (w64 (1 + (w64 (Int.tmod x6 3)))) r1.2.1), .slice a_o_nb_r11_2 o108.length c_o_nb_r11_2] :: blk b8 26 [.int .i64 r1.1, .int .i64 r1.2.1, .slice a5 r1.2.2.length c6] :: F) w ∧ f 253 = .bool b20505 ∧ f 16 = .bool false ∧ f 17 = .pointer (some ⟨b8, 0, none⟩) ∧ f 18 = .pointer (some ⟨b10, 0, none⟩) ∧ f 19 = .int .i64 (Int.tmod (w64 (x3)) (w64 ((w64 (r1.1 - (min (w64 (1 + (w64 (Int.tmod x5 3)))) r1.1))) + 1))) ∧ f 20 = .int .i64 (Int.tmod (w64 (x4)) (w64 ((w64 (r1.2.1 - (min (w64 (1 + (w64 (Int.tmod x6 3)))) r1.2.1))) + 1))) ∧ f 22 = .int .i64 (w64 (Int.tmod x7 1001)) ∧ f 23 = .pointer (some ⟨b166, 0, none⟩) ∧ f 25 = .slice a_o_nt_25 v2_o_nt_25.length c_o_nt_25 ∧ f 26 = .slice none 0 0 ∧ f 27 = .bool v2_t_27 ∧ f 28 = .int .i64 v3_t_28 ∧ f 29 = .int .i64 v2_t_29) ?_ ?_
                      · by_cases hc20508 : v2_t_27 = true
                        · rw [if_pos hc20508] at hmb20505
                          refine ow_no (b := true) (yl_of rfl rfl hc20508) rfl ?_
                          refine ow_no (b := true) (yl_of rfl rfl hc20508) rfl ?_
                          refine ow_no (b := true) (yl_of rfl rfl hc20508) rfl ?_
                          refine ow_no' (yl_undef rfl rfl) ?_
                          refine ow_no' (yl_undef rfl rfl) ?_
                          refine ow_no' (yl_undef rfl rfl) ?_
                          refine ow_no' (yl_undef rfl rfl) ?_
                          refine ow_no' (yl_undef rfl rfl) ?_
                          refine ow_no' (yl_undef rfl rfl) ?_
                          refine ow_no' (yl_undef rfl rfl) ?_
                          refine ow_no' (yl_undef rfl rfl) ?_
                          refine ow_no (b := true) (yl_of rfl rfl hc20508) rfl ?_
                          refine ow_no (b := true) (yl_of rfl rfl hc20508) rfl ?_
                          refine ow_no' (yl_undef rfl rfl) ?_
                          refine ow_no' (yl_undef rfl rfl) ?_
                          refine ow_no' (yl_undef rfl rfl) ?_
                          refine ow_no' (yl_undef rfl rfl) ?_
                          refine ow_no' (yl_undef rfl rfl) ?_
                          refine ow_no' (yl_undef rfl rfl) ?_
                          refine ow_no' (yl_undef rfl rfl) ?_
                          refine ow_no' (yl_undef rfl rfl) ?_
                          refine ow_no (b := true) (yl_of rfl rfl hc20508) rfl ?_
                          refine ow_v (x_pick_t (v := .bool true) ((rfl : ev _ _ _ = _).trans (congrArg Value.bool hc20508)) rfl) rfl ?_
                          refine ow_nil ?_
                          obtain rfl := Option.some.inj hmb20505
                          exact ⟨I20421, rfl, Im.le.refl _, hs, rfl, ht16_o20419, ht17_o20419, ht18_o20419, ht19_o20419, ht20_o20419, ht22_o20419, ht23_o20419, ht25_o20419, ht26_o20419, ht27_o20419, ht28_o20419, ht29_o20419⟩
                        · rw [if_neg hc20508] at hmb20505
                          refine ow_go (yl_of rfl rfl (Bool.eq_false_iff.2 hc20508)) ?_
                          refine ow_v (x_move (v := .int .i64 o20419) ht30_o20419) rfl ?_
                          refine ow_go (yl_of rfl rfl (Bool.eq_false_iff.2 hc20508)) ?_
                          refine ow_v (x_eql (k := .i64) (a := o20419) (b := 0) rfl rfl) rfl ?_
                          refine ow_go (yl_of rfl rfl (Bool.eq_false_iff.2 hc20508)) ?_
                          refine ow_v (x_move (v := .bool (decide (o20419 = 0))) rfl) rfl ?_
                          by_cases hc20509 : o20419 = 0
                          · rw [if_pos hc20509] at hmb20505
                            refine ow_go (yl_of rfl rfl (decide_eq_true hc20509)) ?_
                            refine ow_v (x_move (v := .int .i64 v2_t_29) ht29_o20419) rfl ?_
                            refine ow_go (yl_of rfl rfl (decide_eq_true hc20509)) ?_
                            refine ow_v (x_move (v := .int .i64 (Int.tmod (w64 (x3)) (w64 ((w64 (r1.1 - (min (w64 (1 + (w64 (Int.tmod x5 3)))) r1.1))) + 1)))) ht19_o20419) rfl ?_
                            refine ow_go (yl_of rfl rfl (decide_eq_true hc20509)) ?_
                            refine ow_field (b := b10) (o := 0) fl28_0 ht18_o20419 ?_
                            refine ow_go (yl_of rfl rfl (decide_eq_true hc20509)) ?_
                            refine ow_load (k := 2) (vs := [.int .i64 (min (w64 (1 + (w64 (Int.tmod x5 3)))) r1.1)]) (v := .int .i64 (min (w64 (1 + (w64 (Int.tmod x5 3)))) r1.1)) hs rfl rfl ty3 rfl rfl rfl ?_
                            refine ow_go (yl_of rfl rfl (decide_eq_true hc20509)) ?_
                            refine ow_v (x_sub (k := .i64) (a := (min (w64 (1 + (w64 (Int.tmod x5 3)))) r1.1)) (b := 1) rfl rfl) rfl ?_
                            refine ow_go (yl_of rfl rfl (decide_eq_true hc20509)) ?_
                            refine ow_v (x_quo (k := .i64) (a := (w64 ((min (w64 (1 + (w64 (Int.tmod x5 3)))) r1.1) - 1))) (b := 2) rfl rfl (by decide)) rfl ?_
                            refine ow_go (yl_of rfl rfl (decide_eq_true hc20509)) ?_
                            refine ow_v (x_add (k := .i64) (a := (Int.tmod (w64 (x3)) (w64 ((w64 (r1.1 - (min (w64 (1 + (w64 (Int.tmod x5 3)))) r1.1))) + 1)))) (b := (w64 (Int.tdiv (w64 ((min (w64 (1 + (w64 (Int.tmod x5 3)))) r1.1) - 1)) 2))) rfl rfl) rfl ?_
                            refine ow_go (yl_of rfl rfl (decide_eq_true hc20509)) ?_
                            refine ow_v (x_eql (k := .i64) (a := v2_t_29) (b := (w64 ((Int.tmod (w64 (x3)) (w64 ((w64 (r1.1 - (min (w64 (1 + (w64 (Int.tmod x5 3)))) r1.1))) + 1))) + (w64 (Int.tdiv (w64 ((min (w64 (1 + (w64 (Int.tmod x5 3)))) r1.1) - 1)) 2))))) rfl rfl) rfl ?_
                            refine ow_go (yl_of rfl rfl (Bool.eq_false_iff.2 hc20508)) ?_
                            refine ow_v (x_pick_t (v := .bool (decide (v2_t_29 = (w64 ((Int.tmod (w64 (x3)) (w64 ((w64 (r1.1 - (min (w64 (1 + (w64 (Int.tmod x5 3)))) r1.1))) + 1))) + (w64 (Int.tdiv (w64 ((min (w64 (1 + (w64 (Int.tmod x5 3)))) r1.1) - 1)) 2))))))) ((rfl : ev _ _ _ = _).trans (congrArg Value.bool (decide_eq_true hc20509))) rfl) rfl ?_
                            refine ow_go (yl_of rfl rfl (Bool.eq_false_iff.2 hc20508)) ?_
                            refine ow_v (x_move (v := .bool (decide (v2_t_29 = (w64 ((Int.tmod (w64 (x3)) (w64 ((w64 (r1.1 - (min (w64 (1 + (w64 (Int.tmod x5 3)))) r1.1))) + 1))) + (w64 (Int.tdiv (w64 ((min (w64 (1 + (w64 (Int.tmod x5 3)))) r1.1) - 1)) 2))))))) rfl) rfl ?_
                            by_cases hc20510 : v2_t_29 = (w64 ((Int.tmod (w64 (x3)) (w64 ((w64 (r1.1 - (min (w64 (1 + (w64 (Int.tmod x5 3)))) r1.1))) + 1))) + (w64 (Int.tdiv (w64 ((min (w64 (1 + (w64 (Int.tmod x5 3)))) r1.1) - 1)) 2))))
                            · rw [if_pos hc20510] at hmb20505
                              refine ow_go (yl_of rfl rfl (decide_eq_true hc20510)) ?_
                              refine ow_v (x_move (v := .int .i64 v3_t_28) ht28_o20419) rfl ?_
                              refine ow_go (yl_of rfl rfl (decide_eq_true hc20510)) ?_
                              refine ow_v (x_move (v := .int .i64 (Int.tmod (w64 (x4)) (w64 ((w64 (r1.2.1 - (min (w64 (1 + (w64 (Int.tmod x6 3)))) r1.2.1))) + 1)))) ht20_o20419) rfl ?_
                              refine ow_go (yl_of rfl rfl (decide_eq_true hc20510)) ?_
                              refine ow_field (b := b10) (o := 0) fl28_1 ht18_o20419 ?_
                              refine ow_go (yl_of rfl rfl (decide_eq_true hc20510)) ?_
                              refine ow_load (k := 2) (vs := [.int .i64 (min (w64 (1 + (w64 (Int.tmod x6 3)))) r1.2.1)]) (v := .int .i64 (min (w64 (1 + (w64 (Int.tmod x6 3)))) r1.2.1)) hs rfl rfl ty3 rfl rfl rfl ?_
                              refine ow_go (yl_of rfl rfl (decide_eq_true hc20510)) ?_
                              refine ow_v (x_sub (k := .i64) (a := (min (w64 (1 + (w64 (Int.tmod x6 3)))) r1.2.1)) (b := 1) rfl rfl) rfl ?_
                              refine ow_go (yl_of rfl rfl (decide_eq_true hc20510)) ?_
                              refine ow_v (x_quo (k := .i64) (a := (w64 ((min (w64 (1 + (w64 (Int.tmod x6 3)))) r1.2.1) - 1))) (b := 2) rfl rfl (by decide)) rfl ?_
                              refine ow_go (yl_of rfl rfl (decide_eq_true hc20510)) ?_
                              refine ow_v (x_add (k := .i64) (a := (Int.tmod (w64 (x4)) (w64 ((w64 (r1.2.1 - (min (w64 (1 + (w64 (Int.tmod x6 3)))) r1.2.1))) + 1)))) (b := (w64 (Int.tdiv (w64 ((min (w64 (1 + (w64 (Int.tmod x6 3)))) r1.2.1) - 1)) 2))) rfl rfl) rfl ?_
                              refine ow_go (yl_of rfl rfl (decide_eq_true hc20510)) ?_
                              refine ow_v (x_eql (k := .i64) (a := v3_t_28) (b := (w64 ((Int.tmod (w64 (x4)) (w64 ((w64 (r1.2.1 - (min (w64 (1 + (w64 (Int.tmod x6 3)))) r1.2.1))) + 1))) + (w64 (Int.tdiv (w64 ((min (w64 (1 + (w64 (Int.tmod x6 3)))) r1.2.1) - 1)) 2))))) rfl rfl) rfl ?_
                              refine ow_go (yl_of rfl rfl (Bool.eq_false_iff.2 hc20508)) ?_
                              refine ow_v (x_pick_t (v := .bool (decide (v3_t_28 = (w64 ((Int.tmod (w64 (x4)) (w64 ((w64 (r1.2.1 - (min (w64 (1 + (w64 (Int.tmod x6 3)))) r1.2.1))) + 1))) + (w64 (Int.tdiv (w64 ((min (w64 (1 + (w64 (Int.tmod x6 3)))) r1.2.1) - 1)) 2))))))) ((rfl : ev _ _ _ = _).trans (congrArg Value.bool (decide_eq_true hc20510))) rfl) rfl ?_
                              refine ow_v (x_pick_f (v := .bool (decide (v3_t_28 = (w64 ((Int.tmod (w64 (x4)) (w64 ((w64 (r1.2.1 - (min (w64 (1 + (w64 (Int.tmod x6 3)))) r1.2.1))) + 1))) + (w64 (Int.tdiv (w64 ((min (w64 (1 + (w64 (Int.tmod x6 3)))) r1.2.1) - 1)) 2))))))) ((rfl : ev _ _ _ = _).trans (congrArg Value.bool (Bool.eq_false_iff.2 hc20508))) rfl) rfl ?_
                              refine ow_nil ?_
                              obtain rfl := Option.some.inj hmb20505
                              exact ⟨I20421, rfl, Im.le.refl _, hs, rfl, ht16_o20419, ht17_o20419, ht18_o20419, ht19_o20419, ht20_o20419, ht22_o20419, ht23_o20419, ht25_o20419, ht26_o20419, ht27_o20419, ht28_o20419, ht29_o20419⟩
                            · rw [if_neg hc20510] at hmb20505
                              refine ow_no (b := false) (yl_of rfl rfl (decide_eq_false hc20510)) rfl ?_
                              refine ow_no (b := false) (yl_of rfl rfl (decide_eq_false hc20510)) rfl ?_
                              refine ow_no (b := false) (yl_of rfl rfl (decide_eq_false hc20510)) rfl ?_
                              refine ow_no (b := false) (yl_of rfl rfl (decide_eq_false hc20510)) rfl ?_
                              refine ow_no (b := false) (yl_of rfl rfl (decide_eq_false hc20510)) rfl ?_
                              refine ow_no (b := false) (yl_of rfl rfl (decide_eq_false hc20510)) rfl ?_
                              refine ow_no (b := false) (yl_of rfl rfl (decide_eq_false hc20510)) rfl ?_
                              refine ow_no (b := false) (yl_of rfl rfl (decide_eq_false hc20510)) rfl ?_
                              refine ow_go (yl_of rfl rfl (Bool.eq_false_iff.2 hc20508)) ?_
                              refine ow_v (x_pick_f (v := .bool false) ((rfl : ev _ _ _ = _).trans (congrArg Value.bool (decide_eq_false hc20510))) rfl) rfl ?_
                              refine ow_v (x_pick_f (v := .bool false) ((rfl : ev _ _ _ = _).trans (congrArg Value.bool (Bool.eq_false_iff.2 hc20508))) rfl) rfl ?_
                              refine ow_nil ?_
                              obtain rfl := Option.some.inj hmb20505
                              exact ⟨I20421, rfl, Im.le.refl _, hs, rfl, ht16_o20419, ht17_o20419, ht18_o20419, ht19_o20419, ht20_o20419, ht22_o20419, ht23_o20419, ht25_o20419, ht26_o20419, ht27_o20419, ht28_o20419, ht29_o20419⟩
                          · rw [if_neg hc20509] at hmb20505
                            refine ow_no (b := false) (yl_of rfl rfl (decide_eq_false hc20509)) rfl ?_
                            refine ow_no (b := false) (yl_of rfl rfl (decide_eq_false hc20509)) rfl ?_
                            refine ow_no (b := false) (yl_of rfl rfl (decide_eq_false hc20509)) rfl ?_
                            refine ow_no (b := false) (yl_of rfl rfl (decide_eq_false hc20509)) rfl ?_
                            refine ow_no (b := false) (yl_of rfl rfl (decide_eq_false hc20509)) rfl ?_
                            refine ow_no (b := false) (yl_of rfl rfl (decide_eq_false hc20509)) rfl ?_
                            refine ow_no (b := false) (yl_of rfl rfl (decide_eq_false hc20509)) rfl ?_
                            refine ow_no (b := false) (yl_of rfl rfl (decide_eq_false hc20509)) rfl ?_
                            refine ow_go (yl_of rfl rfl (Bool.eq_false_iff.2 hc20508)) ?_
                            refine ow_v (x_pick_f (v := .bool false) ((rfl : ev _ _ _ = _).trans (congrArg Value.bool (decide_eq_false hc20509))) rfl) rfl ?_
                            refine ow_go (yl_of rfl rfl (Bool.eq_false_iff.2 hc20508)) ?_
                            refine ow_v (x_move (v := .bool false) rfl) rfl ?_
                            refine ow_no (b := false) (yl_of rfl rfl rfl) rfl ?_
                            refine ow_no (b := false) (yl_of rfl rfl rfl) rfl ?_
                            refine ow_no (b := false) (yl_of rfl rfl rfl) rfl ?_
                            refine ow_no (b := false) (yl_of rfl rfl rfl) rfl ?_
                            refine ow_no (b := false) (yl_of rfl rfl rfl) rfl ?_
                            refine ow_no (b := false) (yl_of rfl rfl rfl) rfl ?_
                            refine ow_no (b := false) (yl_of rfl rfl rfl) rfl ?_
                            refine ow_no (b := false) (yl_of rfl rfl rfl) rfl ?_
                            refine ow_go (yl_of rfl rfl (Bool.eq_false_iff.2 hc20508)) ?_
                            refine ow_v (x_pick_f (v := .bool false) rfl rfl) rfl ?_
                            refine ow_v (x_pick_f (v := .bool false) ((rfl : ev _ _ _ = _).trans (congrArg Value.bool (Bool.eq_false_iff.2 hc20508))) rfl) rfl ?_
                            refine ow_nil ?_
                            obtain rfl := Option.some.inj hmb20505
                            exact ⟨I20421, rfl, Im.le.refl _, hs, rfl, ht16_o20419, ht17_o20419, ht18_o20419, ht19_o20419, ht20_o20419, ht22_o20419, ht23_o20419, ht25_o20419, ht26_o20419, ht27_o20419, ht28_o20419, ht29_o20419⟩
                      · clear hmb20505 hs
                        rintro f ds w ⟨I20506, rfl, hle20507, hs, htbb20505, ht16_b20505, ht17_b20505, ht18_b20505, ht19_b20505, ht20_b20505, ht22_b20505, ht23_b20505, ht25_b20505, ht26_b20505, ht27_b20505, ht28_b20505, ht29_b20505⟩
                        replace hx2 := hx2.mono hle20507
                        replace hR7 := hR7.mono hle20507
                        replace hR155 := hR155.mono hle20507
                        replace hR162 := hR162.mono hle20507
                        replace hR165 := hR165.mono hle20507
                        refine ow_v (x_assign (v := .bool b20505) htbb20505) rfl ?_
                        refine ow_nil ?_
                        refine blockK_n ?_
                        obtain rfl := Option.some.inj hm
                        refine joinK_n ⟨a_o_nt_25, c_o_nt_25, I20506, rfl, (hle20490.trans hle20507), hs, ht16_b20505, ht17_b20505, ht18_b20505, ht19_b20505, ht20_b20505, ht22_b20505, ht23_b20505, ht25_b20505, ht26_b20505, rfl, ht28_b20505, ht29_b20505⟩
                · clear hm hs
                  rintro f ds w ⟨a_o_nt_25, c_o_nt_25, I20352, rfl, hle20511, hs, ht16_o20350, ht17_o20350, ht18_o20350, ht19_o20350, ht20_o20350, ht22_o20350, ht23_o20350, ht25_o20350, ht26_o20350, ht27_o20350, ht28_o20350, ht29_o20350⟩
                  replace hm := hq20351
                  replace hx2 := hx2.mono hle20511
                  replace hR7 := hR7.mono hle20511
                  replace hR155 := hR155.mono hle20511
                  replace hR162 := hR162.mono hle20511
                  replace hR165 := hR165.mono hle20511
                  refine cw_region ?_
                  refine ow_v (x_move (v := .int .i64 v2_t_29) ht29_o20350) rfl ?_
                  refine ow_v (x_add (k := .i64) (a := v2_t_29) (b := 1) rfl rfl) rfl ?_
                  refine ow_v (x_assign (v := .int .i64 (w64 (v2_t_29 + 1))) rfl) rfl ?_
                  refine ow_nil ?_
                  exact loopK_n ⟨k, Nat.lt_succ_self k, o20350.1, w64 (v2_t_29 + 1), o20350.2, a_o_nt_25, c_o_nt_25, I20352, rfl, (hle20192.trans hle20511), hm, hs, ht16_o20350, ht17_o20350, ht18_o20350, ht19_o20350, ht20_o20350, ht22_o20350, ht23_o20350, ht25_o20350, ht26_o20350, ht27_o20350, ht28_o20350, rfl⟩
              · rw [if_neg hc20193] at hm
                refine cw_if_f rfl (decide_eq_false hc20193) ?_
                refine cw_exit ?_
                refine seqK_x ?_
                refine loopK_x ?_
                refine blockK_hit ?_
                refine blockK_n ?_
                obtain rfl := Option.some.inj hm
                refine joinK_n ⟨a_o_nt_25, c_o_nt_25, I20191, rfl, hle20192, hs, ht16_L2, ht17_L2, ht18_L2, ht19_L2, ht20_L2, ht22_L2, ht23_L2, ht25_L2, ht26_L2, ht27_L2, ht28_L2⟩
            · clear hm hs
              rintro f ds w ⟨a_o_nt_25, c_o_nt_25, I19556, rfl, hle20512, hs, ht16_o19554, ht17_o19554, ht18_o19554, ht19_o19554, ht20_o19554, ht22_o19554, ht23_o19554, ht25_o19554, ht26_o19554, ht27_o19554, ht28_o19554⟩
              replace hm := hq19555
              replace hx2 := hx2.mono hle20512
              replace hR7 := hR7.mono hle20512
              replace hR155 := hR155.mono hle20512
              replace hR162 := hR162.mono hle20512
              replace hR165 := hR165.mono hle20512
              refine cw_region ?_
              refine ow_v (x_move (v := .int .i64 v3_t_28) ht28_o19554) rfl ?_
              refine ow_v (x_add (k := .i64) (a := v3_t_28) (b := 1) rfl rfl) rfl ?_
              refine ow_v (x_assign (v := .int .i64 (w64 (v3_t_28 + 1))) rfl) rfl ?_
              refine ow_nil ?_
              exact loopK_n ⟨k, Nat.lt_succ_self k, o19554.1, w64 (v3_t_28 + 1), o19554.2, a_o_nt_25, c_o_nt_25, I19556, rfl, (hle18601.trans hle20512), hm, hs, ht16_o19554, ht17_o19554, ht18_o19554, ht19_o19554, ht20_o19554, ht22_o19554, ht23_o19554, ht25_o19554, ht26_o19554, ht27_o19554, rfl⟩
          · rw [if_neg hc18602] at hm
            refine cw_if_f rfl (decide_eq_false hc18602) ?_
            refine cw_exit ?_
            refine seqK_x ?_
            refine loopK_x ?_
            refine blockK_hit ?_
            obtain rfl := Option.some.inj hm
            refine joinK_n ⟨a_o_nt_25, c_o_nt_25, I18600, rfl, hle18601, hs, ht16_L1, ht23_L1, ht25_L1, ht26_L1, ht27_L1⟩
        · clear hm hs
          rintro f ds w ⟨a_o_nt_25, c_o_nt_25, I14817, rfl, hle20513, hs, ht16_o14815, ht23_o14815, ht25_o14815, ht26_o14815, ht27_o14815⟩
          replace hm := hq14816
          replace hx2 := hx2.mono hle20513
          replace hR7 := hR7.mono hle20513
          replace hR155 := hR155.mono hle20513
          replace hR162 := hR162.mono hle20513
          replace hR165 := hR165.mono hle20513
          replace hs := hs.pushNil 40 5
          obtain ⟨o20627, hm2, hq20628⟩ := bind_some hm
          replace hm := hm2; clear hm2
          refine cw_join (fun f ds w => ∃ (a_o_nt_26 : Option Addr) (c_o_nt_26 : Nat) (I20629 : Im), ds = [] ∧ Im.le I14817 I20629 ∧ Sat I20629 (osl 40 5 a_o_nt_26 o20627.length c_o_nt_26 (o20627.flatMap enc40) :: osl 40 5 a_o_nt_25 o14815.2.length c_o_nt_25 (o14815.2.flatMap enc40) :: blk b166 32 [.slice a160 r156.1.length c161, .slice a163 r156.2.1.length c164] :: blk b10 28 [.int .i64 (min (w64 (1 + (w64 (Int.tmod x5 3)))) r1.1), .int .i64 (min (w64 (1 + (w64 (Int.tmod x6 3)))) r1.2.1), .slice a_o_nb_r11_2 o108.length c_o_nb_r11_2] :: blk b8 26 [.int .i64 r1.1, .int .i64 r1.2.1, .slice a5 r1.2.2.length c6] :: F) w ∧ f 16 = .bool false ∧ f 25 = .slice a_o_nt_25 o14815.2.length c_o_nt_25 ∧ f 26 = .slice a_o_nt_26 o20627.length c_o_nt_26 ∧ f 27 = .bool o14815.1) ?_ ?_
          · skip
            refine cw_seq ?_
            refine cw_region ?_
            refine ow_v (x_assign (v := .int .i64 0) rfl) rfl ?_
            refine ow_nil ?_
            refine seqK_n ?_
            refine cw_block ?_
            refine cw_loop (S := fun k f ds w => ∃ (v4_t_35 : Int) (v4_o_nt_26 : List (Int × Int × Int × Int × Int)), ∃ (a_o_nt_26 : Option Addr) (c_o_nt_26 : Nat) (I20662 : Im), ds = [] ∧ Im.le I14817 I20662 ∧ f3_l4 r156 k v4_t_35 v4_o_nt_26 = some o20627 ∧ Sat I20662 (osl 40 5 a_o_nt_26 v4_o_nt_26.length c_o_nt_26 (v4_o_nt_26.flatMap enc40) :: osl 40 5 a_o_nt_25 o14815.2.length c_o_nt_25 (o14815.2.flatMap enc40) :: blk b166 32 [.slice a160 r156.1.length c161, .slice a163 r156.2.1.length c164] :: blk b10 28 [.int .i64 (min (w64 (1 + (w64 (Int.tmod x5 3)))) r1.1), .int .i64 (min (w64 (1 + (w64 (Int.tmod x6 3)))) r1.2.1), .slice a_o_nb_r11_2 o108.length c_o_nb_r11_2] :: blk b8 26 [.int .i64 r1.1, .int .i64 r1.2.1, .slice a5 r1.2.2.length c6] :: F) w ∧ f 16 = .bool false ∧ f 23 = .pointer (some ⟨b166, 0, none⟩) ∧ f 25 = .slice a_o_nt_25 o14815.2.length c_o_nt_25 ∧ f 26 = .slice a_o_nt_26 v4_o_nt_26.length c_o_nt_26 ∧ f 27 = .bool o14815.1 ∧ f 35 = .int .i64 v4_t_35) ?_ (k := FUEL) ⟨0, ([] : List (Int × Int × Int × Int × Int)), none, 0, I14817, rfl, Im.le.refl _, hm, hs, ht16_o14815, ht23_o14815, ht25_o14815, ht26_o14815, ht27_o14815, rfl⟩
            clear hm hs
            rintro k f ds w ⟨v4_t_35, v4_o_nt_26, a_o_nt_26, c_o_nt_26, I20662, rfl, hle20663, hm, hs, ht16_L4, ht23_L4, ht25_L4, ht26_L4, ht27_L4, ht35_L4⟩
            replace hx2 := hx2.mono hle20663
            replace hR7 := hR7.mono hle20663
            replace hR155 := hR155.mono hle20663
            replace hR162 := hR162.mono hle20663
            replace hR165 := hR165.mono hle20663
            rcases k with _ | k
            · unfold f3_l4 at hm; cases hm
            unfold f3_l4 at hm
            refine cw_seq ?_
            refine cw_seq ?_
            refine cw_region ?_
            refine ow_v (x_move (v := .int .i64 v4_t_35) ht35_L4) rfl ?_
            refine ow_field (b := b166) (o := 0) fl32_0 ht23_L4 ?_
            refine ow_load (k := 2) (vs := [.slice a160 r156.1.length c161]) (v := .slice a160 r156.1.length c161) hs rfl rfl ty29 rfl rfl rfl ?_
            refine ow_v (x_len sl29 rfl) rfl ?_
            refine ow_v (x_lss (k := .i64) (a := v4_t_35) (b := (r156.1.length : Int)) rfl rfl) rfl ?_
            refine ow_nil ?_
            refine seqK_n ?_
            by_cases hc20664 : v4_t_35 < (r156.1.length : Int)
            · rw [if_pos hc20664] at hm
              refine cw_if_t rfl (decide_eq_true hc20664) ?_
              refine cw_skip ?_
              refine seqK_n ?_
              refine cw_seq ?_
              refine cw_block ?_
              refine cw_seq ?_
              refine cw_region ?_
              refine ow_field (b := b166) (o := 0) fl32_0 ht23_L4 ?_
              refine ow_load (k := 2) (vs := [.slice a160 r156.1.length c161]) (v := .slice a160 r156.1.length c161) hs rfl rfl ty29 rfl rfl rfl ?_
              refine ow_v (x_move (v := .int .i64 v4_t_35) ht35_L4) rfl ?_
              have hg20665 := (ite_some hm).1
              replace hm := (ite_some hm).2
              refine ow_index (i := v4_t_35) sl29 ty40 rfl rfl hg20665.1 hg20665.2 (Rs.some hR162 (by have := hg20665; omega)) ?_
              refine ow_fieldE (p := v4_t_35.toNat * 5) (oa := a160) fl40_0 rfl ?_
              refine ow_fieldE (p := v4_t_35.toNat * 5) (oa := a160) fl38_2 rfl ?_
              refine ow_loadR (p := v4_t_35.toNat * 5 + 2) (vs := [.int .i64 ((at' r156.1 v4_t_35).2.2.1)]) (v := .int .i64 ((at' r156.1 v4_t_35).2.2.1)) hs hR162 rfl ty3 (flat_at (enc := enc40) (sz := 5) (fun _ => rfl) r156.1 v4_t_35 hg20665.1 hg20665.2 2 1 (by decide)) rfl rfl ?_
              refine ow_v (x_eql (k := .i64) (a := ((at' r156.1 v4_t_35).2.2.1)) (b := 0) rfl rfl) rfl ?_
              refine ow_v (x_move (v := .bool (decide (((at' r156.1 v4_t_35).2.2.1) = 0))) rfl) rfl ?_
              obtain ⟨b20666, hmb20666, hm2⟩ := bind_some hm
              replace hm := hm2; clear hm2
              refine ow_joinN 9 (fun f ds w => ∃ (I20667 : Im), ds = [] ∧ Im.le I20662 I20667 ∧ Sat I20667 (osl 40 5 a_o_nt_26 v4_o_nt_26.length c_o_nt_26 (v4_o_nt_26.flatMap enc40) :: osl 40 5 a_o_nt_25 o14815.2.length c_o_nt_25 (o14815.2.flatMap enc40) :: blk b166 32 [.slice a160 r156.1.length c161, .slice a163 r156.2.1.length c164] :: blk b10 28 [.int .i64 (min (w64 (1 + (w64 (Int.tmod x5 3)))) r1.1), .int .i64 (min (w64 (1 + (w64 (Int.tmod x6 3)))) r1.2.1), .slice a_o_nb_r11_2 o108.length c_o_nb_r11_2] :: blk b8 26 [.int .i64 r1.1, .int .i64 r1.2.1, .slice a5 r1.2.2.length c6] :: F) w ∧ f 278 = .bool b20666 ∧ f 16 = .bool false ∧ f 23 = .pointer (some ⟨b166, 0, none⟩) ∧ f 25 = .slice a_o_nt_25 o14815.2.length c_o_nt_25 ∧ f 26 = .slice a_o_nt_26 v4_o_nt_26.length c_o_nt_26 ∧ f 27 = .bool o14815.1 ∧ f 35 = .int .i64 v4_t_35) ?_ ?_
              · by_cases hc20669 : ((at' r156.1 v4_t_35).2.2.1) = 0
                · rw [if_pos hc20669] at hmb20666
                  refine ow_go (yl_of rfl rfl (decide_eq_true hc20669)) ?_
                  refine ow_field (b := b166) (o := 0) fl32_0 ht23_L4 ?_
                  refine ow_go (yl_of rfl rfl (decide_eq_true hc20669)) ?_
                  refine ow_load (k := 2) (vs := [.slice a160 r156.1.length c161]) (v := .slice a160 r156.1.length c161) hs rfl rfl ty29 rfl rfl rfl ?_
                  refine ow_go (yl_of rfl rfl (decide_eq_true hc20669)) ?_
                  refine ow_v (x_move (v := .int .i64 v4_t_35) ht35_L4) rfl ?_
                  refine ow_go (yl_of rfl rfl (decide_eq_true hc20669)) ?_
                  have hg20670 := (ite_some hmb20666).1
                  replace hmb20666 := (ite_some hmb20666).2
                  refine ow_index (i := v4_t_35) sl29 ty40 rfl rfl hg20670.1 hg20670.2 (Rs.some hR162 (by have := hg20670; omega)) ?_
                  refine ow_go (yl_of rfl rfl (decide_eq_true hc20669)) ?_
                  refine ow_fieldE (p := v4_t_35.toNat * 5) (oa := a160) fl40_0 rfl ?_
                  refine ow_go (yl_of rfl rfl (decide_eq_true hc20669)) ?_
                  refine ow_fieldE (p := v4_t_35.toNat * 5) (oa := a160) fl38_3 rfl ?_
                  refine ow_go (yl_of rfl rfl (decide_eq_true hc20669)) ?_
                  refine ow_loadR (p := v4_t_35.toNat * 5 + 3) (vs := [.int .i64 ((at' r156.1 v4_t_35).2.2.2.1)]) (v := .int .i64 ((at' r156.1 v4_t_35).2.2.2.1)) hs hR162 rfl ty3 (flat_at (enc := enc40) (sz := 5) (fun _ => rfl) r156.1 v4_t_35 hg20670.1 hg20670.2 3 1 (by decide)) rfl rfl ?_
                  refine ow_go (yl_of rfl rfl (decide_eq_true hc20669)) ?_
                  refine ow_v (x_eql (k := .i64) (a := ((at' r156.1 v4_t_35).2.2.2.1)) (b := 2) rfl rfl) rfl ?_
                  refine ow_v (x_pick_t (v := .bool (decide (((at' r156.1 v4_t_35).2.2.2.1) = 2))) ((rfl : ev _ _ _ = _).trans (congrArg Value.bool (decide_eq_true hc20669))) rfl) rfl ?_
                  refine ow_nil ?_
                  obtain rfl := Option.some.inj hmb20666
                  exact ⟨I20662, rfl, Im.le.refl _, hs, rfl, ht16_L4, ht23_L4, ht25_L4, ht26_L4, ht27_L4, ht35_L4⟩
                · rw [if_neg hc20669] at hmb20666
                  refine ow_no (b := false) (yl_of rfl rfl (decide_eq_false hc20669)) rfl ?_
                  refine ow_no (b := false) (yl_of rfl rfl (decide_eq_false hc20669)) rfl ?_
                  refine ow_no (b := false) (yl_of rfl rfl (decide_eq_false hc20669)) rfl ?_
                  refine ow_no (b := false) (yl_of rfl rfl (decide_eq_false hc20669)) rfl ?_
                  refine ow_no (b := false) (yl_of rfl rfl (decide_eq_false hc20669)) rfl ?_
                  refine ow_no (b := false) (yl_of rfl rfl (decide_eq_false hc20669)) rfl ?_
                  refine ow_no (b := false) (yl_of rfl rfl (decide_eq_false hc20669)) rfl ?_
                  refine ow_no (b := false) (yl_of rfl rfl (decide_eq_false hc20669)) rfl ?_
                  refine ow_v (x_pick_f (v := .bool false) ((rfl : ev _ _ _ = _).trans (congrArg Value.bool (decide_eq_false hc20669))) rfl) rfl ?_
                  refine ow_nil ?_
                  obtain rfl := Option.some.inj hmb20666
                  exact ⟨I20662, rfl, Im.le.refl _, hs, rfl, ht16_L4, ht23_L4, ht25_L4, ht26_L4, ht27_L4, ht35_L4⟩
              · clear hmb20666 hs
                rintro f ds w ⟨I20667, rfl, hle20668, hs, htbb20666, ht16_b20666, ht23_b20666, ht25_b20666, ht26_b20666, ht27_b20666, ht35_b20666⟩
                replace hx2 := hx2.mono hle20668
                replace hR7 := hR7.mono hle20668
                replace hR155 := hR155.mono hle20668
                replace hR162 := hR162.mono hle20668
                replace hR165 := hR165.mono hle20668
                refine ow_nil ?_
                refine seqK_n ?_
                by_cases hc20671 : b20666 = true
                · rw [if_pos hc20671] at hm
                  refine cw_if_t htbb20666 hc20671 ?_
                  refine cw_region ?_
                  refine ow_v (x_move (v := .slice a_o_nt_26 v4_o_nt_26.length c_o_nt_26) ht26_b20666) rfl ?_
                  refine ow_field (b := b166) (o := 0) fl32_0 ht23_b20666 ?_
                  refine ow_load (k := 2) (vs := [.slice a160 r156.1.length c161]) (v := .slice a160 r156.1.length c161) hs rfl rfl ty29 rfl rfl rfl ?_
                  refine ow_v (x_move (v := .int .i64 v4_t_35) ht35_b20666) rfl ?_
                  have hg20672 := (ite_some hm).1
                  replace hm := (ite_some hm).2
                  refine ow_index (i := v4_t_35) sl29 ty40 rfl rfl hg20672.1 hg20672.2 (Rs.some hR162 (by have := hg20672; omega)) ?_
                  refine ow_loadR (p := v4_t_35.toNat * 5) (vs := [.int .i64 ((at' r156.1 v4_t_35).1), .int .i64 ((at' r156.1 v4_t_35).2.1), .int .i64 ((at' r156.1 v4_t_35).2.2.1), .int .i64 ((at' r156.1 v4_t_35).2.2.2.1), .int .i64 ((at' r156.1 v4_t_35).2.2.2.2)]) (v := .agg #[.int .i64 ((at' r156.1 v4_t_35).1), .int .i64 ((at' r156.1 v4_t_35).2.1), .int .i64 ((at' r156.1 v4_t_35).2.2.1), .int .i64 ((at' r156.1 v4_t_35).2.2.2.1), .int .i64 ((at' r156.1 v4_t_35).2.2.2.2)]) hs hR162 rfl ty40 (flat_at (enc := enc40) (sz := 5) (fun _ => rfl) r156.1 v4_t_35 hg20672.1 hg20672.2 0 5 (by decide)) rfl rfl ?_
                  refine ow_buildSlice (vp := [(0, .agg #[.int .i64 ((at' r156.1 v4_t_35).1), .int .i64 ((at' r156.1 v4_t_35).2.1), .int .i64 ((at' r156.1 v4_t_35).2.2.1), .int .i64 ((at' r156.1 v4_t_35).2.2.2.1), .int .i64 ((at' r156.1 v4_t_35).2.2.2.2)])]) (cs := [.int .i64 ((at' r156.1 v4_t_35).1), .int .i64 ((at' r156.1 v4_t_35).2.1), .int .i64 ((at' r156.1 v4_t_35).2.2.1), .int .i64 ((at' r156.1 v4_t_35).2.2.2.1), .int .i64 ((at' r156.1 v4_t_35).2.2.2.2)]) hs sl29 ty40 rfl ⟨rfl, rfl, trivial⟩ (by decide) rfl (by decide) ?_
                  clear hs; intro a20675 J20673 w hle20674 hs hR20676
                  replace hx2 := hx2.mono hle20674
                  replace hR7 := hR7.mono hle20674
                  replace hR155 := hR155.mono hle20674
                  replace hR162 := hR162.mono hle20674
                  replace hR165 := hR165.mono hle20674
                  replace hR20676 : Rs J20673 5 a20675 [((at' r156.1 v4_t_35).1, (at' r156.1 v4_t_35).2.1, (at' r156.1 v4_t_35).2.2.1, (at' r156.1 v4_t_35).2.2.2.1, (at' r156.1 v4_t_35).2.2.2.2)].length 1 ([((at' r156.1 v4_t_35).1, (at' r156.1 v4_t_35).2.1, (at' r156.1 v4_t_35).2.2.1, (at' r156.1 v4_t_35).2.2.2.1, (at' r156.1 v4_t_35).2.2.2.2)].flatMap enc40) := hR20676
                  have hg20677 := (ite_some hm).1
                  replace hm := (ite_some hm).2
                  refine ow_appendT (k := 0) (enc := enc40) (X := v4_o_nt_26) (Y := [((at' r156.1 v4_t_35).1, (at' r156.1 v4_t_35).2.1, (at' r156.1 v4_t_35).2.2.1, (at' r156.1 v4_t_35).2.2.2.1, (at' r156.1 v4_t_35).2.2.2.2)]) hs rfl sl29 ty40 el40 rfl rfl rfl hR20676 (fun _ => rfl) hg20677 (by decide) ?_
                  clear hs; intro a20678 c20679 w hs
                  refine ow_v (x_assign (v := .slice a20678 ((v4_o_nt_26 ++ [((at' r156.1 v4_t_35).1, (at' r156.1 v4_t_35).2.1, (at' r156.1 v4_t_35).2.2.1, (at' r156.1 v4_t_35).2.2.2.1, (at' r156.1 v4_t_35).2.2.2.2)]).length) c20679) rfl) rfl ?_
                  refine ow_nil ?_
                  refine blockK_n ?_
                  refine seqK_n ?_
                  refine cw_region ?_
                  refine ow_v (x_move (v := .int .i64 v4_t_35) ht35_b20666) rfl ?_
                  refine ow_v (x_add (k := .i64) (a := v4_t_35) (b := 1) rfl rfl) rfl ?_
                  refine ow_v (x_assign (v := .int .i64 (w64 (v4_t_35 + 1))) rfl) rfl ?_
                  refine ow_nil ?_
                  exact loopK_n ⟨k, Nat.lt_succ_self k, w64 (v4_t_35 + 1), v4_o_nt_26 ++ [((at' r156.1 v4_t_35).1, (at' r156.1 v4_t_35).2.1, (at' r156.1 v4_t_35).2.2.1, (at' r156.1 v4_t_35).2.2.2.1, (at' r156.1 v4_t_35).2.2.2.2)], a20678, c20679, J20673, rfl, ((hle20663.trans hle20668).trans hle20674), hm, hs, ht16_b20666, ht23_b20666, ht25_b20666, rfl, ht27_b20666, rfl⟩
                · rw [if_neg hc20671] at hm
                  refine cw_if_f htbb20666 (Bool.eq_false_iff.2 hc20671) ?_
                  refine cw_skip ?_
                  refine blockK_n ?_
                  refine seqK_n ?_
                  refine cw_region ?_
                  refine ow_v (x_move (v := .int .i64 v4_t_35) ht35_b20666) rfl ?_
                  refine ow_v (x_add (k := .i64) (a := v4_t_35) (b := 1) rfl rfl) rfl ?_
                  refine ow_v (x_assign (v := .int .i64 (w64 (v4_t_35 + 1))) rfl) rfl ?_
                  refine ow_nil ?_
                  exact loopK_n ⟨k, Nat.lt_succ_self k, w64 (v4_t_35 + 1), v4_o_nt_26, a_o_nt_26, c_o_nt_26, I20667, rfl, (hle20663.trans hle20668), hm, hs, ht16_b20666, ht23_b20666, ht25_b20666, ht26_b20666, ht27_b20666, rfl⟩
            · rw [if_neg hc20664] at hm
              refine cw_if_f rfl (decide_eq_false hc20664) ?_
              refine cw_exit ?_
              refine seqK_x ?_
              refine loopK_x ?_
              refine blockK_hit ?_
              obtain rfl := Option.some.inj hm
              refine joinK_n ⟨a_o_nt_26, c_o_nt_26, I20662, rfl, hle20663, hs, ht16_L4, ht25_L4, ht26_L4, ht27_L4⟩
          · clear hm hs
            rintro f ds w ⟨a_o_nt_26, c_o_nt_26, I20629, rfl, hle20680, hs, ht16_o20627, ht25_o20627, ht26_o20627, ht27_o20627⟩
            replace hm := hq20628
            replace hx2 := hx2.mono hle20680
            replace hR7 := hR7.mono hle20680
            replace hR155 := hR155.mono hle20680
            replace hR162 := hR162.mono hle20680
            replace hR165 := hR165.mono hle20680
            refine cw_seq ?_
            replace hs := hs.front (k := 1) rfl
            obtain ⟨J20681, hle20682, hR20683, hs⟩ := hs.freezeO
            replace hx2 := hx2.mono hle20682
            replace hR7 := hR7.mono hle20682
            replace hR155 := hR155.mono hle20682
            replace hR162 := hR162.mono hle20682
            replace hR165 := hR165.mono hle20682
            obtain ⟨J20684, hle20685, hR20686, hs⟩ := hs.freezeO
            replace hx2 := hx2.mono hle20685
            replace hR7 := hR7.mono hle20685
            replace hR155 := hR155.mono hle20685
            replace hR162 := hR162.mono hle20685
            replace hR165 := hR165.mono hle20685
            replace hR20683 := hR20683.mono hle20685
            refine cw_region ?_
            refine ow_v (x_move (v := .bool o14815.1) ht27_o20627) rfl ?_
            refine ow_v (x_move (v := .bool o14815.1) rfl) rfl ?_
            obtain ⟨b20687, hmb20687, hm2⟩ := bind_some hm
            replace hm := hm2; clear hm2
            refine ow_joinN 4 (fun f ds w => ∃ (I20688 : Im), ds = [] ∧ Im.le J20684 I20688 ∧ Sat I20688 (blk b166 32 [.slice a160 r156.1.length c161, .slice a163 r156.2.1.length c164] :: blk b10 28 [.int .i64 (min (w64 (1 + (w64 (Int.tmod x5 3)))) r1.1), .int .i64 (min (w64 (1 + (w64 (Int.tmod x6 3)))) r1.2.1), .slice a_o_nb_r11_2 o108.length c_o_nb_r11_2] :: blk b8 26 [.int .i64 r1.1, .int .i64 r1.2.1, .slice a5 r1.2.2.length c6] :: F) w ∧ f 292 = .bool b20687 ∧ f 16 = .bool false) ?_ ?_
            · by_cases hc20690 : o14815.1 = true
              · rw [if_pos hc20690] at hmb20687
                refine ow_go (yl_of rfl rfl hc20690) ?_
                refine ow_v (x_move (v := .slice a_o_nt_26 o20627.length c_o_nt_26) ht26_o20627) rfl ?_
                refine ow_go (yl_of rfl rfl hc20690) ?_
                refine ow_v (x_move (v := .slice a_o_nt_25 o14815.2.length c_o_nt_25) ht25_o20627) rfl ?_
                refine ow_go (yl_of rfl rfl hc20690) ?_
                obtain ⟨r20691, hr20692, hmb206872⟩ := bind_some hmb20687
                replace hmb20687 := hmb206872; clear hmb206872
                refine ow_call (fi := []) (vs := [.slice a_o_nt_26 o20627.length c_o_nt_26, .slice a_o_nt_25 o14815.2.length c_o_nt_25]) (ca := []) rfl ⟨rfl, rfl, trivial⟩ en7 (f7_ok _ _ hr20692 hs hR20686 hR20683) ?_
                clear hs; rintro _ w ⟨J20693, hle20694, hs, rfl⟩
                replace hx2 := hx2.mono hle20694
                replace hR7 := hR7.mono hle20694
                replace hR155 := hR155.mono hle20694
                replace hR162 := hR162.mono hle20694
                replace hR165 := hR165.mono hle20694
                replace hR20683 := hR20683.mono hle20694
                replace hR20686 := hR20686.mono hle20694
                refine ow_v (x_pick_t (v := .bool r20691) ((rfl : ev _ _ _ = _).trans (congrArg Value.bool hc20690)) rfl) rfl ?_
                refine ow_nil ?_
                obtain rfl := Option.some.inj hmb20687
                exact ⟨J20693, rfl, hle20694, hs, rfl, ht16_o20627⟩
              · rw [if_neg hc20690] at hmb20687
                refine ow_no (b := false) (yl_of rfl rfl (Bool.eq_false_iff.2 hc20690)) rfl ?_
                refine ow_no (b := false) (yl_of rfl rfl (Bool.eq_false_iff.2 hc20690)) rfl ?_
                refine ow_no (b := false) (yl_of rfl rfl (Bool.eq_false_iff.2 hc20690)) rfl ?_
                refine ow_v (x_pick_f (v := .bool false) ((rfl : ev _ _ _ = _).trans (congrArg Value.bool (Bool.eq_false_iff.2 hc20690))) rfl) rfl ?_
                refine ow_nil ?_
                obtain rfl := Option.some.inj hmb20687
                exact ⟨J20684, rfl, Im.le.refl _, hs, rfl, ht16_o20627⟩
            · clear hmb20687 hs
              rintro f ds w ⟨I20688, rfl, hle20689, hs, htbb20687, ht16_b20687⟩
              replace hx2 := hx2.mono hle20689
              replace hR7 := hR7.mono hle20689
              replace hR155 := hR155.mono hle20689
              replace hR162 := hR162.mono hle20689
              replace hR165 := hR165.mono hle20689
              replace hR20683 := hR20683.mono hle20689
              replace hR20686 := hR20686.mono hle20689
              refine ow_v (x_assign (v := .bool b20687) htbb20687) rfl ?_
              refine ow_nil ?_
              refine seqK_n ?_
              refine cw_ret ?_
              refine ret_ok (rs := [.tmp 16]) (vs := [.bool b20687]) (.inr rfl) rfl ⟨rfl, trivial⟩ ?_
              obtain rfl := Option.some.inj hm
              replace hs := hs.erase 0
              replace hs := hs.erase 0
              replace hs := hs.erase 0
              exact ⟨I20688, ((((((((((hle4.trans hle14).trans hle152).trans hle154).trans hle159).trans hle170).trans hle20513).trans hle20680).trans hle20682).trans hle20685).trans hle20689), hs, rfl⟩
end Go.HL.Try
