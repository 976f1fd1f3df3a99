/- The walks of some functions, printed by a program of ours (gox). -/
import Derived.Test.YtllfmfoahloldaaHL10
import Derived.Test.YtllfmfoahloldaaF21
set_option linter.unusedVariables false
set_option linter.unusedSimpArgs false
set_option maxRecDepth 100000
set_option maxHeartbeats 400000
namespace Go.HL.Try
open Go.HL
attribute [local irreducible] OW CW CV
theorem sl24 : SliceT P 24 3 := (by kernel_rfl : P.underlying 24 = some (.slice 3))
theorem ty26 : TyC P 26 true [.int .i64 0, .int .i64 0, .slice none 0 0] := ⟨by kernel_rfl, by kernel_rfl, (fun h => by cases h), by kernel_rfl⟩
theorem en49 : Go.Proofs.Enters P 49 := Go.Proofs.enters_of Go.Proofs.Try.func49 (by kernel_rfl) rfl
theorem fl26_2 : FldT P 26 2 2 := ⟨by kernel_rfl⟩
theorem ty24 : TyC P 24 false [.slice none 0 0] := ⟨by kernel_rfl, by kernel_rfl, (fun _ => rfl), by kernel_rfl⟩
theorem en43 : Go.Proofs.Enters P 43 := Go.Proofs.enters_of Go.Proofs.Try.func43 (by kernel_rfl) rfl
theorem en29 : Go.Proofs.Enters P 29 := Go.Proofs.enters_of Go.Proofs.Try.func29 (by kernel_rfl) rfl
theorem en9 : Go.Proofs.Enters P 9 := Go.Proofs.enters_of Go.Proofs.Try.func9 (by kernel_rfl) rfl
theorem en25 : Go.Proofs.Enters P 25 := Go.Proofs.enters_of Go.Proofs.Try.func25 (by kernel_rfl) rfl
theorem fl38_0 : FldT P 38 0 0 := ⟨by kernel_rfl⟩
theorem fl38_1 : FldT P 38 1 1 := ⟨by kernel_rfl⟩
theorem fl38_2 : FldT P 38 2 2 := ⟨by kernel_rfl⟩
theorem fl38_3 : FldT P 38 3 3 := ⟨by kernel_rfl⟩
theorem fl49_0 : FldT P 49 0 0 := ⟨by kernel_rfl⟩
theorem fl49_2 : FldT P 49 2 2 := ⟨by kernel_rfl⟩
theorem fl49_1 : FldT P 49 1 1 := ⟨by kernel_rfl⟩
theorem fl49_3 : FldT P 49 3 3 := ⟨by kernel_rfl⟩
theorem fl49_4 : FldT P 49 4 4 := ⟨by kernel_rfl⟩
theorem fl49_5 : FldT P 49 5 5 := ⟨by kernel_rfl⟩
theorem en42 : Go.Proofs.Enters P 42 := Go.Proofs.enters_of Go.Proofs.Try.func42 (by kernel_rfl) rfl
theorem fl28_0 : FldT P 28 0 0 := ⟨by kernel_rfl⟩
theorem fl28_1 : FldT P 28 1 1 := ⟨by kernel_rfl⟩
theorem fl28_2 : FldT P 28 2 2 := ⟨by kernel_rfl⟩
theorem en30 : Go.Proofs.Enters P 30 := Go.Proofs.enters_of Go.Proofs.Try.func30 (by kernel_rfl) rfl
theorem ar76 : ArrT P 76 2 3 := (by kernel_rfl : P.underlying 76 = some (.array 2 3))
theorem ty76 : TyC P 76 true [.int .i64 0, .int .i64 0] := ⟨by kernel_rfl, by kernel_rfl, (fun h => by cases h), by kernel_rfl⟩
theorem ar77 : ArrT P 77 3 76 := (by kernel_rfl : P.underlying 77 = some (.array 3 76))
theorem ty77 : TyC P 77 true [.int .i64 0, .int .i64 0, .int .i64 0, .int .i64 0, .int .i64 0, .int .i64 0] := ⟨by kernel_rfl, by kernel_rfl, (fun h => by cases h), by kernel_rfl⟩
theorem mixed : P.follows .mixedOrders = true := by kernel_rfl
theorem en31 : Go.Proofs.Enters P 31 := Go.Proofs.enters_of Go.Proofs.Try.func31 (by kernel_rfl) rfl
theorem sl51 : SliceT P 51 66 := (by kernel_rfl : P.underlying 51 = some (.slice 66))
theorem ty66 : TyC P 66 true [.int .i64 0, .int .i64 0, .int .i64 0] := ⟨by kernel_rfl, by kernel_rfl, (fun h => by cases h), by kernel_rfl⟩
theorem ar66 : ArrT P 66 3 3 := (by kernel_rfl : P.underlying 66 = some (.array 3 3))
theorem ty28 : TyC P 28 true [.int .i64 0, .int .i64 0, .slice none 0 0] := ⟨by kernel_rfl, by kernel_rfl, (fun h => by cases h), by kernel_rfl⟩
theorem en22 : Go.Proofs.Enters P 22 := Go.Proofs.enters_of Go.Proofs.Try.func22 (by kernel_rfl) rfl
theorem el66 : ElT P 66 [.int .i64 0, .int .i64 0, .int .i64 0] 24 := ⟨by kernel_rfl⟩
theorem fl40_0 : FldT P 40 0 0 := ⟨by kernel_rfl⟩
theorem en17 : Go.Proofs.Enters P 17 := Go.Proofs.enters_of Go.Proofs.Try.func17 (by kernel_rfl) rfl
theorem en16 : Go.Proofs.Enters P 16 := Go.Proofs.enters_of Go.Proofs.Try.func16 (by kernel_rfl) rfl
theorem st26 : StrT P 26 [(0, 1), (1, 1), (2, 1)] := ⟨by kernel_rfl⟩
theorem sl22 : SliceT P 22 5 := (by kernel_rfl : P.underlying 22 = some (.slice 5))
theorem ty5 : TyC P 5 false [.int .u8 0] := ⟨by kernel_rfl, by kernel_rfl, (fun _ => rfl), by kernel_rfl⟩
theorem it5 : IntT P 5 .u8 := (by kernel_rfl : P.underlying 5 = some (.int .u8))
theorem it3 : IntT P 3 .i64 := (by kernel_rfl : P.underlying 3 = some (.int .i64))
theorem el3 : ElT P 3 [.int .i64 0] 8 := ⟨by kernel_rfl⟩
theorem en19 : Go.Proofs.Enters P 19 := Go.Proofs.enters_of Go.Proofs.Try.func19 (by kernel_rfl) rfl
theorem en20 : Go.Proofs.Enters P 20 := Go.Proofs.enters_of Go.Proofs.Try.func20 (by kernel_rfl) rfl
theorem sl29 : SliceT P 29 40 := (by kernel_rfl : P.underlying 29 = some (.slice 40))
theorem ty40 : TyC P 40 true [.int .i64 0, .int .i64 0, .int .i64 0, .int .i64 0, .int .i64 0] := ⟨by kernel_rfl, by kernel_rfl, (fun h => by cases h), by kernel_rfl⟩
@[go_sem] theorem eq38 (d : Nat) (x0 : Int) (x1 : Int) (x2 : Int) (x3 : Int) (y0 : Int) (y1 : Int) (y2 : Int) (y3 : Int) (w : World) : (Op.equalIn (d + 2) 38 (.agg #[.int .i64 x0, .int .i64 x1, .int .i64 x2, .int .i64 x3]) (.agg #[.int .i64 y0, .int .i64 y1, .int .i64 y2, .int .i64 y3])).run P w = .ok (decide ((x0, x1, x2, x3) = (y0, y1, y2, y3))) w := by
  have und3 := Go.Proofs.Try.underlying3
  have isa3 := Go.Proofs.Try.isAgg3
  have sze3 := Go.Proofs.Try.sizeOf3
  have hS : P.underlying 38 = some (.struct (P.fieldsOf 38)) := by kernel_rfl
  have hp : P.stoodInHeld 38 = false := by kernel_rfl
  rw [run_equalIn_agg w (d + 1) 38 _ _ hS hp]
  simp only [Program.fieldsOf, Go.Proofs.Try.underlying38]
  go_simp
  by_cases h0 : x0 = y0 <;> by_cases h1 : x1 = y1 <;> by_cases h2 : x2 = y2 <;> by_cases h3 : x3 = y3 <;> simp [h0, h1, h2, h3]
@[go_sem] theorem eq40 (d : Nat) (x0 : Int) (x1 : Int) (x2 : Int) (x3 : Int) (x4 : Int) (y0 : Int) (y1 : Int) (y2 : Int) (y3 : Int) (y4 : Int) (w : World) : (Op.equalIn (d + 3) 40 (.agg #[.int .i64 x0, .int .i64 x1, .int .i64 x2, .int .i64 x3, .int .i64 x4]) (.agg #[.int .i64 y0, .int .i64 y1, .int .i64 y2, .int .i64 y3, .int .i64 y4])).run P w = .ok (decide ((x0, x1, x2, x3, x4) = (y0, y1, y2, y3, y4))) w := by
  have isa38 := Go.Proofs.Try.isAgg38
  have sze38 := Go.Proofs.Try.sizeOf38
  have und3 := Go.Proofs.Try.underlying3
  have isa3 := Go.Proofs.Try.isAgg3
  have sze3 := Go.Proofs.Try.sizeOf3
  have hS : P.underlying 40 = some (.struct (P.fieldsOf 40)) := by kernel_rfl
  have hp : P.stoodInHeld 40 = false := by kernel_rfl
  rw [run_equalIn_agg w (d + 2) 40 _ _ hS hp]
  simp only [Program.fieldsOf, Go.Proofs.Try.underlying40]
  go_simp
  by_cases h0 : x0 = y0 <;> by_cases h1 : x1 = y1 <;> by_cases h2 : x2 = y2 <;> by_cases h3 : x3 = y3 <;> by_cases h4 : x4 = y4 <;> simp [h0, h1, h2, h3, h4]
theorem gd40 : P.eqGuardType P.depth 40 = false := by kernel_rfl
theorem ty51 : TyC P 51 false [.slice none 0 0] := ⟨by kernel_rfl, by kernel_rfl, (fun _ => rfl), by kernel_rfl⟩
theorem en13 : Go.Proofs.Enters P 13 := Go.Proofs.enters_of Go.Proofs.Try.func13 (by kernel_rfl) rfl
theorem fl32_1 : FldT P 32 1 1 := ⟨by kernel_rfl⟩
theorem ty30 : TyC P 30 false [.slice none 0 0] := ⟨by kernel_rfl, by kernel_rfl, (fun _ => rfl), by kernel_rfl⟩
theorem sl30 : SliceT P 30 49 := (by kernel_rfl : P.underlying 30 = some (.slice 49))
theorem el49 : ElT P 49 [.int .i64 0, .int .i64 0, .int .i64 0, .int .i64 0, .int .i64 0, .int .i64 0] 48 := ⟨by kernel_rfl⟩
theorem fl32_0 : FldT P 32 0 0 := ⟨by kernel_rfl⟩
theorem ty29 : TyC P 29 false [.slice none 0 0] := ⟨by kernel_rfl, by kernel_rfl, (fun _ => rfl), by kernel_rfl⟩
theorem st38 : StrT P 38 [(0, 1), (1, 1), (2, 1), (3, 1)] := ⟨by kernel_rfl⟩
theorem ty38 : TyC P 38 true [.int .i64 0, .int .i64 0, .int .i64 0, .int .i64 0] := ⟨by kernel_rfl, by kernel_rfl, (fun h => by cases h), by kernel_rfl⟩
theorem st40 : StrT P 40 [(0, 4), (4, 1)] := ⟨by kernel_rfl⟩
theorem el40 : ElT P 40 [.int .i64 0, .int .i64 0, .int .i64 0, .int .i64 0, .int .i64 0] 40 := ⟨by kernel_rfl⟩
theorem ty53 : TyC P 53 false [.nilFunc] := ⟨by kernel_rfl, by kernel_rfl, (fun _ => rfl), by kernel_rfl⟩
theorem en12 : Go.Proofs.Enters P 12 := Go.Proofs.enters_of Go.Proofs.Try.func12 (by kernel_rfl) rfl
def enc76 (x : Int × Int) : List Value := [.int .i64 x.1, .int .i64 x.2]
def enc66 (x : Int × Int × Int) : List Value := [.int .i64 x.1, .int .i64 x.2.1, .int .i64 x.2.2]
def enc40 (x : Int × Int × Int × Int × Int) : List Value := [.int .i64 x.1, .int .i64 x.2.1, .int .i64 x.2.2.1, .int .i64 x.2.2.2.1, .int .i64 x.2.2.2.2]
def enc49 (x : Int × Int × Int × Int × Int × Int) : List Value := [.int .i64 x.1, .int .i64 x.2.1, .int .i64 x.2.2.1, .int .i64 x.2.2.2.1, .int .i64 x.2.2.2.2.1, .int .i64 x.2.2.2.2.2]
theorem f10_ok {cs : List Value} {I : Im} {F : List HP} {w : World} (hs : Sat I F w) : CV P 10 [.agg cs.toArray] w fun v w' => ∃ (J : Im) (b : Nat), Im.le I J ∧ Sat J F w' ∧ v = .func (.func 21) #[] #[.pointer (some ⟨b, 0, none⟩)] ∧ Ib J b 26 cs := by
  refine cv_of (n := 4) Go.Proofs.Try.func10 rfl rfl (Nat.le_of_ble_eq_true rfl) ?_
  refine cw_seq ?_
  refine cw_region ?_
  refine ow_box (v := .agg cs.toArray) (cs := cs) hs rfl rfl ?_
  clear hs; intro b w hs
  refine ow_v (x_assign (v := .nilFunc) rfl) rfl ?_
  refine ow_nil ?_
  refine seqK_n ?_
  refine cw_seq ?_
  refine cw_region ?_
  refine ow_v (x_funcL (vf := []) (vc := [.pointer (some ⟨b, 0, none⟩)]) trivial ⟨rfl, trivial⟩) rfl ?_
  refine ow_v (x_assign (v := .func (.func 21) #[] #[.pointer (some ⟨b, 0, none⟩)]) rfl) rfl ?_
  refine ow_nil ?_
  refine seqK_n ?_
  refine cw_ret ?_
  refine ret_ok (rs := [.tmp 2]) (vs := [.func (.func 21) #[] #[.pointer (some ⟨b, 0, none⟩)]]) (.inr rfl) rfl ⟨rfl, trivial⟩ ?_
  obtain ⟨J, hle, hI, hs⟩ := hs.freezeB
  exact ⟨J, b, hle, hs, rfl, hI⟩

-- f31 sightbench/find.floor
def f31_m (x0 : Int) (x1 : Int) : Option Int :=
  (if x1 ≠ 0 then (if x0 < (w64 ((w64 (Int.tdiv x0 x1)) * x1)) then some (w64 ((w64 (Int.tdiv x0 x1)) - 1)) else some (w64 (Int.tdiv x0 x1))) else none)
theorem f31_ok (x0 : Int) (x1 : Int) {r : Int} (hm : f31_m x0 x1 = some r)  {I : Im} {F : List HP} {w : World} (hs : Sat I (F) w)  :
    CV P 31 [.int .i64 x0, .int .i64 x1] w fun v w' => ∃ (J : Im), Im.le I J ∧ Sat J (F) w' ∧ v = .int .i64 r := by
  unfold f31_m at hm
  refine cv_of (n := 17) Go.Proofs.Try.func31 rfl rfl (Nat.le_of_ble_eq_true rfl) ?_
  refine cw_seq ?_
  refine cw_region ?_
  refine ow_v (x_assign (v := .int .i64 0) rfl) rfl ?_
  refine ow_nil ?_
  refine seqK_n ?_
  refine cw_seq ?_
  refine cw_region ?_
  refine ow_v (x_move (v := .int .i64 x0) rfl) rfl ?_
  refine ow_v (x_move (v := .int .i64 x1) rfl) rfl ?_
  have hg1 := (ite_some hm).1
  replace hm := (ite_some hm).2
  refine ow_v (x_quo (k := .i64) (a := x0) (b := x1) rfl rfl hg1) rfl ?_
  refine ow_v (x_assign (v := .int .i64 (w64 (Int.tdiv x0 x1))) rfl) rfl ?_
  refine ow_nil ?_
  refine seqK_n ?_
  refine cw_seq ?_
  refine cw_seq ?_
  refine cw_region ?_
  refine ow_v (x_move (v := .int .i64 (w64 (Int.tdiv x0 x1))) rfl) rfl ?_
  refine ow_v (x_move (v := .int .i64 x1) rfl) rfl ?_
  refine ow_v (x_mul (k := .i64) (a := (w64 (Int.tdiv x0 x1))) (b := x1) rfl rfl) rfl ?_
  refine ow_v (x_move (v := .int .i64 x0) rfl) rfl ?_
  refine ow_v (x_gtr (k := .i64) (a := (w64 ((w64 (Int.tdiv x0 x1)) * x1))) (b := x0) rfl rfl) rfl ?_
  refine ow_nil ?_
  refine seqK_n ?_
  by_cases hc2 : x0 < (w64 ((w64 (Int.tdiv x0 x1)) * x1))
  · rw [if_pos hc2] at hm
    refine cw_if_t rfl (decide_eq_true hc2) ?_
    refine cw_region ?_
    refine ow_v (x_move (v := .int .i64 (w64 (Int.tdiv x0 x1))) rfl) rfl ?_
    refine ow_v (x_sub (k := .i64) (a := (w64 (Int.tdiv x0 x1))) (b := 1) rfl rfl) rfl ?_
    refine ow_v (x_assign (v := .int .i64 (w64 ((w64 (Int.tdiv x0 x1)) - 1))) rfl) rfl ?_
    refine ow_nil ?_
    refine seqK_n ?_
    refine cw_seq ?_
    refine cw_region ?_
    refine ow_v (x_move (v := .int .i64 (w64 ((w64 (Int.tdiv x0 x1)) - 1))) rfl) rfl ?_
    refine ow_v (x_assign (v := .int .i64 (w64 ((w64 (Int.tdiv x0 x1)) - 1))) rfl) rfl ?_
    refine ow_nil ?_
    refine seqK_n ?_
    refine cw_ret ?_
    refine ret_ok (rs := [.tmp 4]) (vs := [.int .i64 (w64 ((w64 (Int.tdiv x0 x1)) - 1))]) (.inr rfl) rfl ⟨rfl, trivial⟩ ?_
    obtain rfl := Option.some.inj hm
    exact ⟨I, Im.le.refl _, hs, rfl⟩
  · rw [if_neg hc2] at hm
    refine cw_if_f rfl (decide_eq_false hc2) ?_
    refine cw_skip ?_
    refine seqK_n ?_
    refine cw_seq ?_
    refine cw_region ?_
    refine ow_v (x_move (v := .int .i64 (w64 (Int.tdiv x0 x1))) rfl) rfl ?_
    refine ow_v (x_assign (v := .int .i64 (w64 (Int.tdiv x0 x1))) rfl) rfl ?_
    refine ow_nil ?_
    refine seqK_n ?_
    refine cw_ret ?_
    refine ret_ok (rs := [.tmp 4]) (vs := [.int .i64 (w64 (Int.tdiv x0 x1))]) (.inr rfl) rfl ⟨rfl, trivial⟩ ?_
    obtain rfl := Option.some.inj hm
    exact ⟨I, Im.le.refl _, hs, rfl⟩

-- f9 sightbench/find.within
def f9_l0 (x0 : Int) (x1 : Int) (x2 : List Int) : Nat → Int → Option (Sum Unit Bool)
  | 0, _ => none
  | k + 1, v0_t_11 => (if v0_t_11 < (x2.length : Int) then (if 0 ≤ v0_t_11 ∧ v0_t_11 < (x2.length : Int) then ((if (at' x2 v0_t_11) < x0 then some true else some (decide (x1 < (at' x2 v0_t_11)))).bind fun b44 => (if b44 = true then some (Sum.inr false) else (f9_l0 x0 x1 x2 k (w64 (v0_t_11 + 1))))) else none) else some (Sum.inl ()))
def f9_m (x0 : Int) (x1 : Int) (x2 : List Int) : Option Bool :=
  (lb (S := Unit) (f9_l0 x0 x1 x2 FUEL 0) id (fun s23 => some true))
theorem f9_ok (x0 : Int) (x1 : Int) (x2 : List Int) {r : Bool} (hm : f9_m x0 x1 x2 = some r) {ax2 : Option Addr} {cx2 : Nat} {I : Im} {F : List HP} {w : World} (hs : Sat I (F) w) (hx2 : Rs I 1 ax2 x2.length cx2 (x2.flatMap e64)) :
    CV P 9 [.int .i64 x0, .int .i64 x1, .slice ax2 x2.length cx2] w fun v w' => ∃ (J : Im), Im.le I J ∧ Sat J (F) w' ∧ v = .bool r := by
  unfold f9_m at hm
  refine cv_of (n := 24) Go.Proofs.Try.func9 rfl rfl (Nat.le_of_ble_eq_true rfl) ?_
  refine cw_seq ?_
  refine cw_region ?_
  refine ow_v (x_assign (v := .bool false) rfl) rfl ?_
  refine ow_nil ?_
  refine seqK_n ?_
  obtain ⟨o22, hm2, hq24⟩ := lb_some hm
  replace hm := hm2; clear hm2
  refine cw_join (fun f ds w => ∃ (s23 : Unit) (I25 : Im), ds = [] ∧ Im.le I I25 ∧ o22 = Sum.inl s23 ∧ Sat I25 (F) w ∧ f 6 = .bool false) ?_ ?_
  · skip
    refine cw_seq ?_
    refine cw_region ?_
    refine ow_v (x_move (v := .slice ax2 x2.length cx2) rfl) rfl ?_
    refine ow_v (x_len sl24 rfl) rfl ?_
    refine ow_v (x_move (v := .int .i64 0) rfl) rfl ?_
    refine ow_nil ?_
    refine seqK_n ?_
    refine cw_block ?_
    refine cw_loop (S := fun k f ds w => ∃ (v0_t_11 : Int), ∃ (I40 : Im), ds = [] ∧ Im.le I I40 ∧ f9_l0 x0 x1 x2 k v0_t_11 = some o22 ∧ Sat I40 (F) w ∧ f 0 = .int .i64 x0 ∧ f 1 = .int .i64 x1 ∧ f 6 = .bool false ∧ f 9 = .slice ax2 x2.length cx2 ∧ f 10 = .int .i64 (x2.length : Int) ∧ f 11 = .int .i64 v0_t_11) ?_ (k := FUEL) ⟨0, I, rfl, Im.le.refl _, hm, hs, rfl, rfl, rfl, rfl, rfl, rfl⟩
    clear hm hs
    rintro k f ds w ⟨v0_t_11, I40, rfl, hle41, hm, hs, ht0_L0, ht1_L0, ht6_L0, ht9_L0, ht10_L0, ht11_L0⟩
    replace hx2 := hx2.mono hle41
    rcases k with _ | k
    · unfold f9_l0 at hm; cases hm
    unfold f9_l0 at hm
    refine cw_seq ?_
    refine cw_region ?_
    refine ow_v (x_lss (k := .i64) (a := v0_t_11) (b := (x2.length : Int)) ht11_L0 ht10_L0) rfl ?_
    refine ow_nil ?_
    refine seqK_n ?_
    refine cw_seq ?_
    by_cases hc42 : v0_t_11 < (x2.length : Int)
    · rw [if_pos hc42] at hm
      refine cw_if_t rfl (decide_eq_true hc42) ?_
      refine cw_skip ?_
      refine seqK_n ?_
      refine cw_seq ?_
      refine cw_block ?_
      refine cw_seq ?_
      refine cw_region ?_
      have hg43 := (ite_some hm).1
      replace hm := (ite_some hm).2
      refine ow_index (i := v0_t_11) sl24 ty3 ht9_L0 ht11_L0 hg43.1 hg43.2 (Rs.some hx2 (by have := hg43; omega)) ?_
      refine ow_loadR (p := v0_t_11.toNat * 1) (vs := [.int .i64 (at' x2 v0_t_11)]) (v := .int .i64 (at' x2 v0_t_11)) hs hx2 rfl ty3 (flat_at (enc := e64) (sz := 1) (fun _ => rfl) x2 v0_t_11 hg43.1 hg43.2 0 1 (by decide)) rfl rfl ?_
      refine ow_v (x_assign (v := .int .i64 (at' x2 v0_t_11)) rfl) rfl ?_
      refine ow_nil ?_
      refine seqK_n ?_
      refine cw_seq ?_
      refine cw_region ?_
      refine ow_v (x_move (v := .int .i64 (at' x2 v0_t_11)) rfl) rfl ?_
      refine ow_v (x_move (v := .int .i64 x0) ht0_L0) rfl ?_
      refine ow_v (x_lss (k := .i64) (a := (at' x2 v0_t_11)) (b := x0) rfl rfl) rfl ?_
      refine ow_v (x_move (v := .bool (decide ((at' x2 v0_t_11) < x0))) rfl) rfl ?_
      obtain ⟨b44, hmb44, hm2⟩ := bind_some hm
      replace hm := hm2; clear hm2
      refine ow_joinN 4 (fun f ds w => ∃ (I45 : Im), ds = [] ∧ Im.le I40 I45 ∧ Sat I45 (F) w ∧ f 22 = .bool b44 ∧ f 0 = .int .i64 x0 ∧ f 1 = .int .i64 x1 ∧ f 6 = .bool false ∧ f 9 = .slice ax2 x2.length cx2 ∧ f 10 = .int .i64 (x2.length : Int) ∧ f 11 = .int .i64 v0_t_11) ?_ ?_
      · by_cases hc47 : (at' x2 v0_t_11) < x0
        · rw [if_pos hc47] at hmb44
          refine ow_no (b := true) (yl_of rfl rfl (decide_eq_true hc47)) rfl ?_
          refine ow_no (b := true) (yl_of rfl rfl (decide_eq_true hc47)) rfl ?_
          refine ow_no (b := true) (yl_of rfl rfl (decide_eq_true hc47)) rfl ?_
          refine ow_v (x_pick_t (v := .bool true) ((rfl : ev _ _ _ = _).trans (congrArg Value.bool (decide_eq_true hc47))) rfl) rfl ?_
          refine ow_nil ?_
          obtain rfl := Option.some.inj hmb44
          exact ⟨I40, rfl, Im.le.refl _, hs, rfl, ht0_L0, ht1_L0, ht6_L0, ht9_L0, ht10_L0, ht11_L0⟩
        · rw [if_neg hc47] at hmb44
          refine ow_go (yl_of rfl rfl (decide_eq_false hc47)) ?_
          refine ow_v (x_move (v := .int .i64 (at' x2 v0_t_11)) rfl) rfl ?_
          refine ow_go (yl_of rfl rfl (decide_eq_false hc47)) ?_
          refine ow_v (x_move (v := .int .i64 x1) ht1_L0) rfl ?_
          refine ow_go (yl_of rfl rfl (decide_eq_false hc47)) ?_
          refine ow_v (x_gtr (k := .i64) (a := (at' x2 v0_t_11)) (b := x1) rfl rfl) rfl ?_
          refine ow_v (x_pick_f (v := .bool (decide (x1 < (at' x2 v0_t_11)))) ((rfl : ev _ _ _ = _).trans (congrArg Value.bool (decide_eq_false hc47))) rfl) rfl ?_
          refine ow_nil ?_
          obtain rfl := Option.some.inj hmb44
          exact ⟨I40, rfl, Im.le.refl _, hs, rfl, ht0_L0, ht1_L0, ht6_L0, ht9_L0, ht10_L0, ht11_L0⟩
      · clear hmb44 hs
        rintro f ds w ⟨I45, rfl, hle46, hs, htbb44, ht0_b44, ht1_b44, ht6_b44, ht9_b44, ht10_b44, ht11_b44⟩
        replace hx2 := hx2.mono hle46
        refine ow_nil ?_
        refine seqK_n ?_
        by_cases hc48 : b44 = true
        · rw [if_pos hc48] at hm
          refine cw_if_t htbb44 hc48 ?_
          refine cw_seq ?_
          refine cw_region ?_
          refine ow_v (x_assign (v := .bool false) rfl) rfl ?_
          refine ow_nil ?_
          refine seqK_n ?_
          refine cw_ret ?_
          refine blockK_r ?_
          refine seqK_r ?_
          refine loopK_r ?_
          refine blockK_r ?_
          refine joinK_r ?_
          refine ret_ok (rs := [.tmp 6]) (vs := [.bool false]) (.inr rfl) rfl ⟨rfl, trivial⟩ ?_
          replace hm := lret hm hq24
          obtain rfl := Option.some.inj hm
          exact ⟨I45, (hle41.trans hle46), hs, rfl⟩
        · rw [if_neg hc48] at hm
          refine cw_if_f htbb44 (Bool.eq_false_iff.2 hc48) ?_
          refine cw_skip ?_
          refine blockK_n ?_
          refine seqK_n ?_
          refine cw_region ?_
          refine ow_v (x_add (k := .i64) (a := v0_t_11) (b := 1) ht11_b44 rfl) rfl ?_
          refine ow_v (x_move (v := .int .i64 (w64 (v0_t_11 + 1))) rfl) rfl ?_
          refine ow_nil ?_
          exact loopK_n ⟨k, Nat.lt_succ_self k, w64 (v0_t_11 + 1), I45, rfl, (hle41.trans hle46), hm, hs, ht0_b44, ht1_b44, ht6_b44, ht9_b44, ht10_b44, rfl⟩
    · rw [if_neg hc42] at hm
      refine cw_if_f rfl (decide_eq_false hc42) ?_
      refine cw_exit ?_
      refine seqK_x ?_
      refine loopK_x ?_
      refine blockK_hit ?_
      obtain rfl := Option.some.inj hm
      refine joinK_n ⟨(), I40, rfl, hle41, rfl, hs, ht6_L0⟩
  · clear hm hs
    rintro f ds w ⟨s23, I25, rfl, hle49, rfl, hs, ht6_o22⟩
    replace hm := lexit rfl hq24
    replace hx2 := hx2.mono hle49
    refine cw_seq ?_
    refine cw_region ?_
    refine ow_v (x_assign (v := .bool true) rfl) rfl ?_
    refine ow_nil ?_
    refine seqK_n ?_
    refine cw_ret ?_
    refine ret_ok (rs := [.tmp 6]) (vs := [.bool true]) (.inr rfl) rfl ⟨rfl, trivial⟩ ?_
    obtain rfl := Option.some.inj hm
    exact ⟨I25, hle49, hs, rfl⟩

-- f49 sightbench/image.within
def f49_l0 (x0 : Int) (x1 : Int) (x2 : List Int) : Nat → Int → Option (Sum Unit Bool)
  | 0, _ => none
  | k + 1, v0_t_11 => (if v0_t_11 < (x2.length : Int) then (if 0 ≤ v0_t_11 ∧ v0_t_11 < (x2.length : Int) then ((if (at' x2 v0_t_11) < x0 then some true else some (decide (x1 < (at' x2 v0_t_11)))).bind fun b44 => (if b44 = true then some (Sum.inr false) else (f49_l0 x0 x1 x2 k (w64 (v0_t_11 + 1))))) else none) else some (Sum.inl ()))
def f49_m (x0 : Int) (x1 : Int) (x2 : List Int) : Option Bool :=
  (lb (S := Unit) (f49_l0 x0 x1 x2 FUEL 0) id (fun s23 => some true))
theorem f49_ok (x0 : Int) (x1 : Int) (x2 : List Int) {r : Bool} (hm : f49_m x0 x1 x2 = some r) {ax2 : Option Addr} {cx2 : Nat} {I : Im} {F : List HP} {w : World} (hs : Sat I (F) w) (hx2 : Rs I 1 ax2 x2.length cx2 (x2.flatMap e64)) :
    CV P 49 [.int .i64 x0, .int .i64 x1, .slice ax2 x2.length cx2] w fun v w' => ∃ (J : Im), Im.le I J ∧ Sat J (F) w' ∧ v = .bool r := by
  unfold f49_m at hm
  refine cv_of (n := 24) Go.Proofs.Try.func49 rfl rfl (Nat.le_of_ble_eq_true rfl) ?_
  refine cw_seq ?_
  refine cw_region ?_
  refine ow_v (x_assign (v := .bool false) rfl) rfl ?_
  refine ow_nil ?_
  refine seqK_n ?_
  obtain ⟨o22, hm2, hq24⟩ := lb_some hm
  replace hm := hm2; clear hm2
  refine cw_join (fun f ds w => ∃ (s23 : Unit) (I25 : Im), ds = [] ∧ Im.le I I25 ∧ o22 = Sum.inl s23 ∧ Sat I25 (F) w ∧ f 6 = .bool false) ?_ ?_
  · skip
    refine cw_seq ?_
    refine cw_region ?_
    refine ow_v (x_move (v := .slice ax2 x2.length cx2) rfl) rfl ?_
    refine ow_v (x_len sl24 rfl) rfl ?_
    refine ow_v (x_move (v := .int .i64 0) rfl) rfl ?_
    refine ow_nil ?_
    refine seqK_n ?_
    refine cw_block ?_
    refine cw_loop (S := fun k f ds w => ∃ (v0_t_11 : Int), ∃ (I40 : Im), ds = [] ∧ Im.le I I40 ∧ f49_l0 x0 x1 x2 k v0_t_11 = some o22 ∧ Sat I40 (F) w ∧ f 0 = .int .i64 x0 ∧ f 1 = .int .i64 x1 ∧ f 6 = .bool false ∧ f 9 = .slice ax2 x2.length cx2 ∧ f 10 = .int .i64 (x2.length : Int) ∧ f 11 = .int .i64 v0_t_11) ?_ (k := FUEL) ⟨0, I, rfl, Im.le.refl _, hm, hs, rfl, rfl, rfl, rfl, rfl, rfl⟩
    clear hm hs
    rintro k f ds w ⟨v0_t_11, I40, rfl, hle41, hm, hs, ht0_L0, ht1_L0, ht6_L0, ht9_L0, ht10_L0, ht11_L0⟩
    replace hx2 := hx2.mono hle41
    rcases k with _ | k
    · unfold f49_l0 at hm; cases hm
    unfold f49_l0 at hm
    refine cw_seq ?_
    refine cw_region ?_
    refine ow_v (x_lss (k := .i64) (a := v0_t_11) (b := (x2.length : Int)) ht11_L0 ht10_L0) rfl ?_
    refine ow_nil ?_
    refine seqK_n ?_
    refine cw_seq ?_
    by_cases hc42 : v0_t_11 < (x2.length : Int)
    · rw [if_pos hc42] at hm
      refine cw_if_t rfl (decide_eq_true hc42) ?_
      refine cw_skip ?_
      refine seqK_n ?_
      refine cw_seq ?_
      refine cw_block ?_
      refine cw_seq ?_
      refine cw_region ?_
      have hg43 := (ite_some hm).1
      replace hm := (ite_some hm).2
      refine ow_index (i := v0_t_11) sl24 ty3 ht9_L0 ht11_L0 hg43.1 hg43.2 (Rs.some hx2 (by have := hg43; omega)) ?_
      refine ow_loadR (p := v0_t_11.toNat * 1) (vs := [.int .i64 (at' x2 v0_t_11)]) (v := .int .i64 (at' x2 v0_t_11)) hs hx2 rfl ty3 (flat_at (enc := e64) (sz := 1) (fun _ => rfl) x2 v0_t_11 hg43.1 hg43.2 0 1 (by decide)) rfl rfl ?_
      refine ow_v (x_assign (v := .int .i64 (at' x2 v0_t_11)) rfl) rfl ?_
      refine ow_nil ?_
      refine seqK_n ?_
      refine cw_seq ?_
      refine cw_region ?_
      refine ow_v (x_move (v := .int .i64 (at' x2 v0_t_11)) rfl) rfl ?_
      refine ow_v (x_move (v := .int .i64 x0) ht0_L0) rfl ?_
      refine ow_v (x_lss (k := .i64) (a := (at' x2 v0_t_11)) (b := x0) rfl rfl) rfl ?_
      refine ow_v (x_move (v := .bool (decide ((at' x2 v0_t_11) < x0))) rfl) rfl ?_
      obtain ⟨b44, hmb44, hm2⟩ := bind_some hm
      replace hm := hm2; clear hm2
      refine ow_joinN 4 (fun f ds w => ∃ (I45 : Im), ds = [] ∧ Im.le I40 I45 ∧ Sat I45 (F) w ∧ f 22 = .bool b44 ∧ f 0 = .int .i64 x0 ∧ f 1 = .int .i64 x1 ∧ f 6 = .bool false ∧ f 9 = .slice ax2 x2.length cx2 ∧ f 10 = .int .i64 (x2.length : Int) ∧ f 11 = .int .i64 v0_t_11) ?_ ?_
      · by_cases hc47 : (at' x2 v0_t_11) < x0
        · rw [if_pos hc47] at hmb44
          refine ow_no (b := true) (yl_of rfl rfl (decide_eq_true hc47)) rfl ?_
          refine ow_no (b := true) (yl_of rfl rfl (decide_eq_true hc47)) rfl ?_
          refine ow_no (b := true) (yl_of rfl rfl (decide_eq_true hc47)) rfl ?_
          refine ow_v (x_pick_t (v := .bool true) ((rfl : ev _ _ _ = _).trans (congrArg Value.bool (decide_eq_true hc47))) rfl) rfl ?_
          refine ow_nil ?_
          obtain rfl := Option.some.inj hmb44
          exact ⟨I40, rfl, Im.le.refl _, hs, rfl, ht0_L0, ht1_L0, ht6_L0, ht9_L0, ht10_L0, ht11_L0⟩
        · rw [if_neg hc47] at hmb44
          refine ow_go (yl_of rfl rfl (decide_eq_false hc47)) ?_
          refine ow_v (x_move (v := .int .i64 (at' x2 v0_t_11)) rfl) rfl ?_
          refine ow_go (yl_of rfl rfl (decide_eq_false hc47)) ?_
          refine ow_v (x_move (v := .int .i64 x1) ht1_L0) rfl ?_
          refine ow_go (yl_of rfl rfl (decide_eq_false hc47)) ?_
          refine ow_v (x_gtr (k := .i64) (a := (at' x2 v0_t_11)) (b := x1) rfl rfl) rfl ?_
          refine ow_v (x_pick_f (v := .bool (decide (x1 < (at' x2 v0_t_11)))) ((rfl : ev _ _ _ = _).trans (congrArg Value.bool (decide_eq_false hc47))) rfl) rfl ?_
          refine ow_nil ?_
          obtain rfl := Option.some.inj hmb44
          exact ⟨I40, rfl, Im.le.refl _, hs, rfl, ht0_L0, ht1_L0, ht6_L0, ht9_L0, ht10_L0, ht11_L0⟩
      · clear hmb44 hs
        rintro f ds w ⟨I45, rfl, hle46, hs, htbb44, ht0_b44, ht1_b44, ht6_b44, ht9_b44, ht10_b44, ht11_b44⟩
        replace hx2 := hx2.mono hle46
        refine ow_nil ?_
        refine seqK_n ?_
        by_cases hc48 : b44 = true
        · rw [if_pos hc48] at hm
          refine cw_if_t htbb44 hc48 ?_
          refine cw_seq ?_
          refine cw_region ?_
          refine ow_v (x_assign (v := .bool false) rfl) rfl ?_
          refine ow_nil ?_
          refine seqK_n ?_
          refine cw_ret ?_
          refine blockK_r ?_
          refine seqK_r ?_
          refine loopK_r ?_
          refine blockK_r ?_
          refine joinK_r ?_
          refine ret_ok (rs := [.tmp 6]) (vs := [.bool false]) (.inr rfl) rfl ⟨rfl, trivial⟩ ?_
          replace hm := lret hm hq24
          obtain rfl := Option.some.inj hm
          exact ⟨I45, (hle41.trans hle46), hs, rfl⟩
        · rw [if_neg hc48] at hm
          refine cw_if_f htbb44 (Bool.eq_false_iff.2 hc48) ?_
          refine cw_skip ?_
          refine blockK_n ?_
          refine seqK_n ?_
          refine cw_region ?_
          refine ow_v (x_add (k := .i64) (a := v0_t_11) (b := 1) ht11_b44 rfl) rfl ?_
          refine ow_v (x_move (v := .int .i64 (w64 (v0_t_11 + 1))) rfl) rfl ?_
          refine ow_nil ?_
          exact loopK_n ⟨k, Nat.lt_succ_self k, w64 (v0_t_11 + 1), I45, rfl, (hle41.trans hle46), hm, hs, ht0_b44, ht1_b44, ht6_b44, ht9_b44, ht10_b44, rfl⟩
    · rw [if_neg hc42] at hm
      refine cw_if_f rfl (decide_eq_false hc42) ?_
      refine cw_exit ?_
      refine seqK_x ?_
      refine loopK_x ?_
      refine blockK_hit ?_
      obtain rfl := Option.some.inj hm
      refine joinK_n ⟨(), I40, rfl, hle41, rfl, hs, ht6_L0⟩
  · clear hm hs
    rintro f ds w ⟨s23, I25, rfl, hle49, rfl, hs, ht6_o22⟩
    replace hm := lexit rfl hq24
    replace hx2 := hx2.mono hle49
    refine cw_seq ?_
    refine cw_region ?_
    refine ow_v (x_assign (v := .bool true) rfl) rfl ?_
    refine ow_nil ?_
    refine seqK_n ?_
    refine cw_ret ?_
    refine ret_ok (rs := [.tmp 6]) (vs := [.bool true]) (.inr rfl) rfl ⟨rfl, trivial⟩ ?_
    obtain rfl := Option.some.inj hm
    exact ⟨I25, hle49, hs, rfl⟩

-- f43 sightbench/image.valid
def f43_m (x0_0 : Int) (x0_1 : Int) (x0_2 : List Int) : Option Bool :=
  ((f49_m 1 16 [x0_0, x0_1]).bind fun r7 => ((if r7 = true then some (decide ((x0_2.length : Int) = (w64 (x0_0 * x0_1)))) else some false).bind fun b11 => ((if b11 = true then ((f49_m (-2147483648) 2147483648 x0_2).bind fun r19 => some r19) else some false).bind fun b15 => some b15)))
theorem f43_ok (x0_0 : Int) (x0_1 : Int) (x0_2 : List Int) {r : Bool} (hm : f43_m x0_0 x0_1 x0_2 = some r) {ax0_2 : Option Addr} {cx0_2 : Nat} {I : Im} {F : List HP} {w : World} (hs : Sat I (F) w) (hx0_2 : Rs I 1 ax0_2 x0_2.length cx0_2 (x0_2.flatMap e64)) :
    CV P 43 [.agg #[.int .i64 x0_0, .int .i64 x0_1, .slice ax0_2 x0_2.length cx0_2]] w fun v w' => ∃ (J : Im), Im.le I J ∧ Sat J (F) w' ∧ v = .bool r := by
  unfold f43_m at hm
  refine cv_of (n := 25) Go.Proofs.Try.func43 rfl rfl (Nat.le_of_ble_eq_true rfl) ?_
  refine cw_seq ?_
  refine cw_region ?_
  refine ow_box (v := .agg #[.int .i64 x0_0, .int .i64 x0_1, .slice ax0_2 x0_2.length cx0_2]) (cs := [.int .i64 x0_0, .int .i64 x0_1, .slice ax0_2 x0_2.length cx0_2]) hs rfl rfl ?_
  clear hs; intro b1 w hs
  refine ow_v (x_assign (v := .bool false) rfl) rfl ?_
  refine ow_nil ?_
  refine seqK_n ?_
  refine cw_seq ?_
  refine cw_region ?_
  refine ow_field (b := b1) (o := 0) fl26_0 rfl ?_
  refine ow_load (k := 0) (vs := [.int .i64 x0_0]) (v := .int .i64 x0_0) hs rfl rfl ty3 rfl rfl rfl ?_
  refine ow_field (b := b1) (o := 0) fl26_1 rfl ?_
  refine ow_load (k := 0) (vs := [.int .i64 x0_1]) (v := .int .i64 x0_1) hs rfl rfl ty3 rfl rfl rfl ?_
  refine ow_buildSlice (vp := [(0, .int .i64 x0_0), (1, .int .i64 x0_1)]) (cs := [.int .i64 x0_0, .int .i64 x0_1]) hs sl24 ty3 rfl ⟨rfl, rfl, rfl, rfl, trivial⟩ (by decide) rfl (by decide) ?_
  clear hs; intro a5 J3 w hle4 hs hR6
  replace hx0_2 := hx0_2.mono hle4
  replace hR6 : Rs J3 1 a5 [x0_0, x0_1].length 2 ([x0_0, x0_1].flatMap e64) := hR6
  obtain ⟨r7, hr8, hm2⟩ := bind_some hm
  replace hm := hm2; clear hm2
  refine ow_call (fi := []) (vs := [.int .i64 1, .int .i64 16, .slice a5 ([x0_0, x0_1].length) 2]) (ca := []) rfl ⟨rfl, rfl, rfl, trivial⟩ en49 (f49_ok _ _ _ hr8 hs hR6) ?_
  clear hs; rintro _ w ⟨J9, hle10, hs, rfl⟩
  replace hx0_2 := hx0_2.mono hle10
  replace hR6 := hR6.mono hle10
  refine ow_v (x_move (v := .bool r7) rfl) rfl ?_
  obtain ⟨b11, hmb11, hm2⟩ := bind_some hm
  replace hm := hm2; clear hm2
  refine ow_joinN 10 (fun f ds w => ∃ (I12 : Im), ds = [] ∧ Im.le J9 I12 ∧ Sat I12 (blk b1 26 [.int .i64 x0_0, .int .i64 x0_1, .slice ax0_2 x0_2.length cx0_2] :: F) w ∧ f 19 = .bool b11 ∧ f 1 = .pointer (some ⟨b1, 0, none⟩) ∧ f 2 = .bool false) ?_ ?_
  · by_cases hc14 : r7 = true
    · rw [if_pos hc14] at hmb11
      refine ow_go (yl_of rfl rfl hc14) ?_
      refine ow_field (b := b1) (o := 0) fl26_2 rfl ?_
      refine ow_go (yl_of rfl rfl hc14) ?_
      refine ow_load (k := 0) (vs := [.slice ax0_2 x0_2.length cx0_2]) (v := .slice ax0_2 x0_2.length cx0_2) hs rfl rfl ty24 rfl rfl rfl ?_
      refine ow_go (yl_of rfl rfl hc14) ?_
      refine ow_v (x_len sl24 rfl) rfl ?_
      refine ow_go (yl_of rfl rfl hc14) ?_
      refine ow_field (b := b1) (o := 0) fl26_0 rfl ?_
      refine ow_go (yl_of rfl rfl hc14) ?_
      refine ow_load (k := 0) (vs := [.int .i64 x0_0]) (v := .int .i64 x0_0) hs rfl rfl ty3 rfl rfl rfl ?_
      refine ow_go (yl_of rfl rfl hc14) ?_
      refine ow_field (b := b1) (o := 0) fl26_1 rfl ?_
      refine ow_go (yl_of rfl rfl hc14) ?_
      refine ow_load (k := 0) (vs := [.int .i64 x0_1]) (v := .int .i64 x0_1) hs rfl rfl ty3 rfl rfl rfl ?_
      refine ow_go (yl_of rfl rfl hc14) ?_
      refine ow_v (x_mul (k := .i64) (a := x0_0) (b := x0_1) rfl rfl) rfl ?_
      refine ow_go (yl_of rfl rfl hc14) ?_
      refine ow_v (x_eql (k := .i64) (a := (x0_2.length : Int)) (b := (w64 (x0_0 * x0_1))) rfl rfl) rfl ?_
      refine ow_v (x_pick_t (v := .bool (decide ((x0_2.length : Int) = (w64 (x0_0 * x0_1))))) ((rfl : ev _ _ _ = _).trans (congrArg Value.bool hc14)) rfl) rfl ?_
      refine ow_nil ?_
      obtain rfl := Option.some.inj hmb11
      exact ⟨J9, rfl, Im.le.refl _, hs, rfl, rfl, rfl⟩
    · rw [if_neg hc14] at hmb11
      refine ow_no (b := false) (yl_of rfl rfl (Bool.eq_false_iff.2 hc14)) rfl ?_
      refine ow_no (b := false) (yl_of rfl rfl (Bool.eq_false_iff.2 hc14)) rfl ?_
      refine ow_no (b := false) (yl_of rfl rfl (Bool.eq_false_iff.2 hc14)) rfl ?_
      refine ow_no (b := false) (yl_of rfl rfl (Bool.eq_false_iff.2 hc14)) rfl ?_
      refine ow_no (b := false) (yl_of rfl rfl (Bool.eq_false_iff.2 hc14)) rfl ?_
      refine ow_no (b := false) (yl_of rfl rfl (Bool.eq_false_iff.2 hc14)) rfl ?_
      refine ow_no (b := false) (yl_of rfl rfl (Bool.eq_false_iff.2 hc14)) rfl ?_
      refine ow_no (b := false) (yl_of rfl rfl (Bool.eq_false_iff.2 hc14)) rfl ?_
      refine ow_no (b := false) (yl_of rfl rfl (Bool.eq_false_iff.2 hc14)) rfl ?_
      refine ow_v (x_pick_f (v := .bool false) ((rfl : ev _ _ _ = _).trans (congrArg Value.bool (Bool.eq_false_iff.2 hc14))) rfl) rfl ?_
      refine ow_nil ?_
      obtain rfl := Option.some.inj hmb11
      exact ⟨J9, rfl, Im.le.refl _, hs, rfl, rfl, rfl⟩
  · clear hmb11 hs
    rintro f ds w ⟨I12, rfl, hle13, hs, htbb11, ht1_b11, ht2_b11⟩
    replace hx0_2 := hx0_2.mono hle13
    replace hR6 := hR6.mono hle13
    refine ow_v (x_move (v := .bool b11) htbb11) rfl ?_
    obtain ⟨b15, hmb15, hm2⟩ := bind_some hm
    replace hm := hm2; clear hm2
    refine ow_joinN 4 (fun f ds w => ∃ (I16 : Im), ds = [] ∧ Im.le I12 I16 ∧ Sat I16 (blk b1 26 [.int .i64 x0_0, .int .i64 x0_1, .slice ax0_2 x0_2.length cx0_2] :: F) w ∧ f 24 = .bool b15 ∧ f 2 = .bool false) ?_ ?_
    · by_cases hc18 : b11 = true
      · rw [if_pos hc18] at hmb15
        refine ow_go (yl_of rfl rfl hc18) ?_
        refine ow_field (b := b1) (o := 0) fl26_2 ht1_b11 ?_
        refine ow_go (yl_of rfl rfl hc18) ?_
        refine ow_load (k := 0) (vs := [.slice ax0_2 x0_2.length cx0_2]) (v := .slice ax0_2 x0_2.length cx0_2) hs rfl rfl ty24 rfl rfl rfl ?_
        refine ow_go (yl_of rfl rfl hc18) ?_
        obtain ⟨r19, hr20, hmb152⟩ := bind_some hmb15
        replace hmb15 := hmb152; clear hmb152
        refine ow_call (fi := []) (vs := [.int .i64 (-2147483648), .int .i64 2147483648, .slice ax0_2 x0_2.length cx0_2]) (ca := []) rfl ⟨rfl, rfl, rfl, trivial⟩ en49 (f49_ok _ _ _ hr20 hs hx0_2) ?_
        clear hs; rintro _ w ⟨J21, hle22, hs, rfl⟩
        replace hx0_2 := hx0_2.mono hle22
        replace hR6 := hR6.mono hle22
        refine ow_v (x_pick_t (v := .bool r19) ((rfl : ev _ _ _ = _).trans (congrArg Value.bool hc18)) rfl) rfl ?_
        refine ow_nil ?_
        obtain rfl := Option.some.inj hmb15
        exact ⟨J21, rfl, hle22, hs, rfl, ht2_b11⟩
      · rw [if_neg hc18] at hmb15
        refine ow_no (b := false) (yl_of rfl rfl (Bool.eq_false_iff.2 hc18)) rfl ?_
        refine ow_no (b := false) (yl_of rfl rfl (Bool.eq_false_iff.2 hc18)) rfl ?_
        refine ow_no (b := false) (yl_of rfl rfl (Bool.eq_false_iff.2 hc18)) rfl ?_
        refine ow_v (x_pick_f (v := .bool false) ((rfl : ev _ _ _ = _).trans (congrArg Value.bool (Bool.eq_false_iff.2 hc18))) rfl) rfl ?_
        refine ow_nil ?_
        obtain rfl := Option.some.inj hmb15
        exact ⟨I12, rfl, Im.le.refl _, hs, rfl, ht2_b11⟩
    · clear hmb15 hs
      rintro f ds w ⟨I16, rfl, hle17, hs, htbb15, ht2_b15⟩
      replace hx0_2 := hx0_2.mono hle17
      replace hR6 := hR6.mono hle17
      refine ow_v (x_assign (v := .bool b15) htbb15) rfl ?_
      refine ow_nil ?_
      refine seqK_n ?_
      refine cw_ret ?_
      refine ret_ok (rs := [.tmp 2]) (vs := [.bool b15]) (.inr rfl) rfl ⟨rfl, trivial⟩ ?_
      obtain rfl := Option.some.inj hm
      replace hs := hs.erase 0
      exact ⟨I16, (((hle4.trans hle10).trans hle13).trans hle17), hs, rfl⟩

-- f29 sightbench/image.Check
def f29_m (x0_0 : Int) (x0_1 : Int) (x0_2 : List Int) : Option Int :=
  ((f43_m x0_0 x0_1 x0_2).bind fun r3 => (if (!r3) = true then some 20 else some 0))
theorem f29_ok (x0_0 : Int) (x0_1 : Int) (x0_2 : List Int) {r : Int} (hm : f29_m x0_0 x0_1 x0_2 = some r) {ax0_2 : Option Addr} {cx0_2 : Nat} {I : Im} {F : List HP} {w : World} (hs : Sat I (F) w) (hx0_2 : Rs I 1 ax0_2 x0_2.length cx0_2 (x0_2.flatMap e64)) :
    CV P 29 [.agg #[.int .i64 x0_0, .int .i64 x0_1, .slice ax0_2 x0_2.length cx0_2]] w fun v w' => ∃ (J : Im), Im.le I J ∧ Sat J (F) w' ∧ v = .int .i64 r := by
  unfold f29_m at hm
  refine cv_of (n := 6) Go.Proofs.Try.func29 rfl rfl (Nat.le_of_ble_eq_true rfl) ?_
  refine cw_seq ?_
  refine cw_region ?_
  refine ow_box (v := .agg #[.int .i64 x0_0, .int .i64 x0_1, .slice ax0_2 x0_2.length cx0_2]) (cs := [.int .i64 x0_0, .int .i64 x0_1, .slice ax0_2 x0_2.length cx0_2]) hs rfl rfl ?_
  clear hs; intro b1 w hs
  refine ow_v (x_assign (v := .int .i64 0) rfl) rfl ?_
  refine ow_nil ?_
  refine seqK_n ?_
  refine cw_seq ?_
  refine cw_seq ?_
  refine cw_region ?_
  refine ow_load (k := 0) (vs := [.int .i64 x0_0, .int .i64 x0_1, .slice ax0_2 x0_2.length cx0_2]) (v := .agg #[.int .i64 x0_0, .int .i64 x0_1, .slice ax0_2 x0_2.length cx0_2]) hs rfl rfl ty26 rfl rfl rfl ?_
  obtain ⟨r3, hr4, hm2⟩ := bind_some hm
  replace hm := hm2; clear hm2
  refine ow_call (fi := []) (vs := [.agg #[.int .i64 x0_0, .int .i64 x0_1, .slice ax0_2 x0_2.length cx0_2]]) (ca := []) rfl ⟨rfl, trivial⟩ en43 (f43_ok _ _ _ hr4 hs hx0_2) ?_
  clear hs; rintro _ w ⟨J5, hle6, hs, rfl⟩
  replace hx0_2 := hx0_2.mono hle6
  refine ow_v (x_not (b := r3) rfl) rfl ?_
  refine ow_nil ?_
  refine seqK_n ?_
  by_cases hc7 : (!r3) = true
  · rw [if_pos hc7] at hm
    refine cw_if_t rfl hc7 ?_
    refine cw_seq ?_
    refine cw_region ?_
    refine ow_v (x_assign (v := .int .i64 20) rfl) rfl ?_
    refine ow_nil ?_
    refine seqK_n ?_
    refine cw_ret ?_
    refine seqK_r ?_
    refine ret_ok (rs := [.tmp 2]) (vs := [.int .i64 20]) (.inr rfl) rfl ⟨rfl, trivial⟩ ?_
    obtain rfl := Option.some.inj hm
    replace hs := hs.erase 0
    exact ⟨J5, hle6, hs, rfl⟩
  · rw [if_neg hc7] at hm
    refine cw_if_f rfl (Bool.eq_false_iff.2 hc7) ?_
    refine cw_skip ?_
    refine seqK_n ?_
    refine cw_seq ?_
    refine cw_region ?_
    refine ow_v (x_assign (v := .int .i64 0) rfl) rfl ?_
    refine ow_nil ?_
    refine seqK_n ?_
    refine cw_ret ?_
    refine ret_ok (rs := [.tmp 2]) (vs := [.int .i64 0]) (.inr rfl) rfl ⟨rfl, trivial⟩ ?_
    obtain rfl := Option.some.inj hm
    replace hs := hs.erase 0
    exact ⟨J5, hle6, hs, rfl⟩

-- f30 slices.Max[[]int,int]
def f30_l0 (x0 : List Int) : Nat → Int → Int → Option Int
  | 0, _, _ => none
  | k + 1, v0_t_3, v0_t_4 => (if v0_t_4 < (x0.length : Int) then (if 0 ≤ v0_t_4 ∧ v0_t_4 < (x0.length : Int) then (f30_l0 x0 k (max v0_t_3 (at' x0 v0_t_4)) (w64 (v0_t_4 + 1))) else none) else some v0_t_3)
def f30_m (x0 : List Int) : Option Int :=
  (if (x0.length : Int) < 1 then none else (if 0 ≤ (0 : Int) ∧ (0 : Int) < (x0.length : Int) then ((f30_l0 x0 FUEL (at' x0 (0 : Int)) 1).bind fun (o9 : Int) => some o9) else none))
theorem f30_ok (x0 : List Int) {r : Int} (hm : f30_m x0 = some r) {ax0 : Option Addr} {cx0 : Nat} {I : Im} {F : List HP} {w : World} (hs : Sat I (F) w) (hx0 : Rs I 1 ax0 x0.length cx0 (x0.flatMap e64)) :
    CV P 30 [.slice ax0 x0.length cx0] w fun v w' => ∃ (J : Im), Im.le I J ∧ Sat J (F) w' ∧ v = .int .i64 r := by
  unfold f30_m at hm
  refine cv_of (n := 25) Go.Proofs.Try.func30 rfl rfl (Nat.le_of_ble_eq_true rfl) ?_
  refine cw_seq ?_
  refine cw_region ?_
  refine ow_v (x_assign (v := .int .i64 0) rfl) rfl ?_
  refine ow_nil ?_
  refine seqK_n ?_
  refine cw_seq ?_
  refine cw_seq ?_
  refine cw_region ?_
  refine ow_v (x_move (v := .slice ax0 x0.length cx0) rfl) rfl ?_
  refine ow_v (x_len sl24 rfl) rfl ?_
  refine ow_v (x_lss (k := .i64) (a := (x0.length : Int)) (b := 1) rfl rfl) rfl ?_
  refine ow_nil ?_
  refine seqK_n ?_
  by_cases hc1 : (x0.length : Int) < 1
  · rw [if_pos hc1] at hm
    refine cw_if_t rfl (decide_eq_true hc1) ?_
    refine cw_region ?_
    cases hm
  · rw [if_neg hc1] at hm
    refine cw_if_f rfl (decide_eq_false hc1) ?_
    refine cw_skip ?_
    refine seqK_n ?_
    refine cw_seq ?_
    refine cw_region ?_
    refine ow_v (x_move (v := .slice ax0 x0.length cx0) rfl) rfl ?_
    have hg2 := (ite_some hm).1
    replace hm := (ite_some hm).2
    refine ow_index (i := (0 : Int)) sl24 ty3 rfl rfl hg2.1 hg2.2 (Rs.some hx0 (by have := hg2; omega)) ?_
    refine ow_loadR (p := (0 : Int).toNat * 1) (vs := [.int .i64 (at' x0 (0 : Int))]) (v := .int .i64 (at' x0 (0 : Int))) hs hx0 rfl ty3 (flat_at (enc := e64) (sz := 1) (fun _ => rfl) x0 (0 : Int) hg2.1 hg2.2 0 1 (by decide)) rfl rfl ?_
    refine ow_v (x_assign (v := .int .i64 (at' x0 (0 : Int))) rfl) rfl ?_
    refine ow_nil ?_
    refine seqK_n ?_
    obtain ⟨o9, hm2, hq10⟩ := bind_some hm
    replace hm := hm2; clear hm2
    refine cw_join (fun f ds w => ∃ (I11 : Im), ds = [] ∧ Im.le I I11 ∧ Sat I11 (F) w ∧ f 2 = .int .i64 0 ∧ f 3 = .int .i64 o9) ?_ ?_
    · skip
      refine cw_seq ?_
      refine cw_region ?_
      refine ow_v (x_assign (v := .int .i64 1) rfl) rfl ?_
      refine ow_nil ?_
      refine seqK_n ?_
      refine cw_block ?_
      refine cw_loop (S := fun k f ds w => ∃ (v0_t_3 : Int) (v0_t_4 : Int), ∃ (I16 : Im), ds = [] ∧ Im.le I I16 ∧ f30_l0 x0 k v0_t_3 v0_t_4 = some o9 ∧ Sat I16 (F) w ∧ f 0 = .slice ax0 x0.length cx0 ∧ f 2 = .int .i64 0 ∧ f 3 = .int .i64 v0_t_3 ∧ f 4 = .int .i64 v0_t_4) ?_ (k := FUEL) ⟨(at' x0 (0 : Int)), 1, I, rfl, Im.le.refl _, hm, hs, rfl, rfl, rfl, rfl⟩
      clear hm hs
      rintro k f ds w ⟨v0_t_3, v0_t_4, I16, rfl, hle17, hm, hs, ht0_L0, ht2_L0, ht3_L0, ht4_L0⟩
      replace hx0 := hx0.mono hle17
      rcases k with _ | k
      · unfold f30_l0 at hm; cases hm
      unfold f30_l0 at hm
      refine cw_seq ?_
      refine cw_seq ?_
      refine cw_region ?_
      refine ow_v (x_move (v := .int .i64 v0_t_4) ht4_L0) rfl ?_
      refine ow_v (x_move (v := .slice ax0 x0.length cx0) ht0_L0) rfl ?_
      refine ow_v (x_len sl24 rfl) rfl ?_
      refine ow_v (x_lss (k := .i64) (a := v0_t_4) (b := (x0.length : Int)) rfl rfl) rfl ?_
      refine ow_nil ?_
      refine seqK_n ?_
      by_cases hc18 : v0_t_4 < (x0.length : Int)
      · rw [if_pos hc18] at hm
        refine cw_if_t rfl (decide_eq_true hc18) ?_
        refine cw_skip ?_
        refine seqK_n ?_
        refine cw_seq ?_
        refine cw_block ?_
        refine cw_region ?_
        refine ow_v (x_move (v := .int .i64 v0_t_3) ht3_L0) rfl ?_
        refine ow_v (x_move (v := .slice ax0 x0.length cx0) ht0_L0) rfl ?_
        refine ow_v (x_move (v := .int .i64 v0_t_4) ht4_L0) rfl ?_
        have hg19 := (ite_some hm).1
        replace hm := (ite_some hm).2
        refine ow_index (i := v0_t_4) sl24 ty3 rfl rfl hg19.1 hg19.2 (Rs.some hx0 (by have := hg19; omega)) ?_
        refine ow_loadR (p := v0_t_4.toNat * 1) (vs := [.int .i64 (at' x0 v0_t_4)]) (v := .int .i64 (at' x0 v0_t_4)) hs hx0 rfl ty3 (flat_at (enc := e64) (sz := 1) (fun _ => rfl) x0 v0_t_4 hg19.1 hg19.2 0 1 (by decide)) rfl rfl ?_
        refine ow_v (x_max2 (k := .i64) (a := v0_t_3) (b := (at' x0 v0_t_4)) rfl rfl) rfl ?_
        refine ow_v (x_assign (v := .int .i64 (max v0_t_3 (at' x0 v0_t_4))) rfl) rfl ?_
        refine ow_nil ?_
        refine blockK_n ?_
        refine seqK_n ?_
        refine cw_region ?_
        refine ow_v (x_move (v := .int .i64 v0_t_4) ht4_L0) rfl ?_
        refine ow_v (x_add (k := .i64) (a := v0_t_4) (b := 1) rfl rfl) rfl ?_
        refine ow_v (x_assign (v := .int .i64 (w64 (v0_t_4 + 1))) rfl) rfl ?_
        refine ow_nil ?_
        exact loopK_n ⟨k, Nat.lt_succ_self k, max v0_t_3 (at' x0 v0_t_4), w64 (v0_t_4 + 1), I16, rfl, hle17, hm, hs, ht0_L0, ht2_L0, rfl, rfl⟩
      · rw [if_neg hc18] at hm
        refine cw_if_f rfl (decide_eq_false hc18) ?_
        refine cw_exit ?_
        refine seqK_x ?_
        refine loopK_x ?_
        refine blockK_hit ?_
        obtain rfl := Option.some.inj hm
        refine joinK_n ⟨I16, rfl, hle17, hs, ht2_L0, ht3_L0⟩
    · clear hm hs
      rintro f ds w ⟨I11, rfl, hle20, hs, ht2_o9, ht3_o9⟩
      replace hm := hq10
      replace hx0 := hx0.mono hle20
      refine cw_seq ?_
      refine cw_region ?_
      refine ow_v (x_move (v := .int .i64 o9) ht3_o9) rfl ?_
      refine ow_v (x_assign (v := .int .i64 o9) rfl) rfl ?_
      refine ow_nil ?_
      refine seqK_n ?_
      refine cw_ret ?_
      refine ret_ok (rs := [.tmp 2]) (vs := [.int .i64 o9]) (.inr rfl) rfl ⟨rfl, trivial⟩ ?_
      obtain rfl := Option.some.inj hm
      exact ⟨I11, hle20, hs, rfl⟩

-- f19 sightbench/find.camera
def f19_m (x0_0 : Int) (x0_1 : Int) (x0_2 : List Int) : Option Bool :=
  ((f29_m x0_0 x0_1 x0_2).bind fun r3 => ((if r3 = 0 then ((f9_m 0 255 x0_2).bind fun r11 => some r11) else some false).bind fun b7 => some b7))
theorem f19_ok (x0_0 : Int) (x0_1 : Int) (x0_2 : List Int) {r : Bool} (hm : f19_m x0_0 x0_1 x0_2 = some r) {ax0_2 : Option Addr} {cx0_2 : Nat} {I : Im} {F : List HP} {w : World} (hs : Sat I (F) w) (hx0_2 : Rs I 1 ax0_2 x0_2.length cx0_2 (x0_2.flatMap e64)) :
    CV P 19 [.agg #[.int .i64 x0_0, .int .i64 x0_1, .slice ax0_2 x0_2.length cx0_2]] w fun v w' => ∃ (J : Im), Im.le I J ∧ Sat J (F) w' ∧ v = .bool r := by
  unfold f19_m at hm
  refine cv_of (n := 11) Go.Proofs.Try.func19 rfl rfl (Nat.le_of_ble_eq_true rfl) ?_
  refine cw_seq ?_
  refine cw_region ?_
  refine ow_box (v := .agg #[.int .i64 x0_0, .int .i64 x0_1, .slice ax0_2 x0_2.length cx0_2]) (cs := [.int .i64 x0_0, .int .i64 x0_1, .slice ax0_2 x0_2.length cx0_2]) hs rfl rfl ?_
  clear hs; intro b1 w hs
  refine ow_v (x_assign (v := .bool false) rfl) rfl ?_
  refine ow_nil ?_
  refine seqK_n ?_
  refine cw_seq ?_
  refine cw_region ?_
  refine ow_load (k := 0) (vs := [.int .i64 x0_0, .int .i64 x0_1, .slice ax0_2 x0_2.length cx0_2]) (v := .agg #[.int .i64 x0_0, .int .i64 x0_1, .slice ax0_2 x0_2.length cx0_2]) hs rfl rfl ty26 rfl rfl rfl ?_
  obtain ⟨r3, hr4, hm2⟩ := bind_some hm
  replace hm := hm2; clear hm2
  refine ow_call (fi := []) (vs := [.agg #[.int .i64 x0_0, .int .i64 x0_1, .slice ax0_2 x0_2.length cx0_2]]) (ca := []) rfl ⟨rfl, trivial⟩ en29 (f29_ok _ _ _ hr4 hs hx0_2) ?_
  clear hs; rintro _ w ⟨J5, hle6, hs, rfl⟩
  replace hx0_2 := hx0_2.mono hle6
  refine ow_v (x_eql (k := .i64) (a := r3) (b := 0) rfl rfl) rfl ?_
  refine ow_v (x_move (v := .bool (decide (r3 = 0))) rfl) rfl ?_
  obtain ⟨b7, hmb7, hm2⟩ := bind_some hm
  replace hm := hm2; clear hm2
  refine ow_joinN 4 (fun f ds w => ∃ (I8 : Im), ds = [] ∧ Im.le J5 I8 ∧ Sat I8 (blk b1 26 [.int .i64 x0_0, .int .i64 x0_1, .slice ax0_2 x0_2.length cx0_2] :: F) w ∧ f 10 = .bool b7 ∧ f 2 = .bool false) ?_ ?_
  · by_cases hc10 : r3 = 0
    · rw [if_pos hc10] at hmb7
      refine ow_go (yl_of rfl rfl (decide_eq_true hc10)) ?_
      refine ow_field (b := b1) (o := 0) fl26_2 rfl ?_
      refine ow_go (yl_of rfl rfl (decide_eq_true hc10)) ?_
      refine ow_load (k := 0) (vs := [.slice ax0_2 x0_2.length cx0_2]) (v := .slice ax0_2 x0_2.length cx0_2) hs rfl rfl ty24 rfl rfl rfl ?_
      refine ow_go (yl_of rfl rfl (decide_eq_true hc10)) ?_
      obtain ⟨r11, hr12, hmb72⟩ := bind_some hmb7
      replace hmb7 := hmb72; clear hmb72
      refine ow_call (fi := []) (vs := [.int .i64 0, .int .i64 255, .slice ax0_2 x0_2.length cx0_2]) (ca := []) rfl ⟨rfl, rfl, rfl, trivial⟩ en9 (f9_ok _ _ _ hr12 hs hx0_2) ?_
      clear hs; rintro _ w ⟨J13, hle14, hs, rfl⟩
      replace hx0_2 := hx0_2.mono hle14
      refine ow_v (x_pick_t (v := .bool r11) ((rfl : ev _ _ _ = _).trans (congrArg Value.bool (decide_eq_true hc10))) rfl) rfl ?_
      refine ow_nil ?_
      obtain rfl := Option.some.inj hmb7
      exact ⟨J13, rfl, hle14, hs, rfl, rfl⟩
    · rw [if_neg hc10] at hmb7
      refine ow_no (b := false) (yl_of rfl rfl (decide_eq_false hc10)) rfl ?_
      refine ow_no (b := false) (yl_of rfl rfl (decide_eq_false hc10)) rfl ?_
      refine ow_no (b := false) (yl_of rfl rfl (decide_eq_false hc10)) rfl ?_
      refine ow_v (x_pick_f (v := .bool false) ((rfl : ev _ _ _ = _).trans (congrArg Value.bool (decide_eq_false hc10))) rfl) rfl ?_
      refine ow_nil ?_
      obtain rfl := Option.some.inj hmb7
      exact ⟨J5, rfl, Im.le.refl _, hs, rfl, rfl⟩
  · clear hmb7 hs
    rintro f ds w ⟨I8, rfl, hle9, hs, htbb7, ht2_b7⟩
    replace hx0_2 := hx0_2.mono hle9
    refine ow_v (x_assign (v := .bool b7) htbb7) rfl ?_
    refine ow_nil ?_
    refine seqK_n ?_
    refine cw_ret ?_
    refine ret_ok (rs := [.tmp 2]) (vs := [.bool b7]) (.inr rfl) rfl ⟨rfl, trivial⟩ ?_
    obtain rfl := Option.some.inj hm
    replace hs := hs.erase 0
    exact ⟨I8, (hle6.trans hle9), hs, rfl⟩

-- f42 sightbench/find.turned
def f42_m (x0 : Int) (x1 : Int) : Option Bool :=
  ((f9_m 0 11 [x0]).bind fun r5 => ((if r5 = true then ((f9_m 1 4 [x1]).bind fun r17 => some r17) else some false).bind fun b9 => some b9))
theorem f42_ok (x0 : Int) (x1 : Int) {r : Bool} (hm : f42_m x0 x1 = some r)  {I : Im} {F : List HP} {w : World} (hs : Sat I (F) w)  :
    CV P 42 [.int .i64 x0, .int .i64 x1] w fun v w' => ∃ (J : Im), Im.le I J ∧ Sat J (F) w' ∧ v = .bool r := by
  unfold f42_m at hm
  refine cv_of (n := 13) Go.Proofs.Try.func42 rfl rfl (Nat.le_of_ble_eq_true rfl) ?_
  refine cw_seq ?_
  refine cw_region ?_
  refine ow_v (x_assign (v := .bool false) rfl) rfl ?_
  refine ow_nil ?_
  refine seqK_n ?_
  refine cw_seq ?_
  refine cw_region ?_
  refine ow_v (x_move (v := .int .i64 x0) rfl) rfl ?_
  refine ow_buildSlice (vp := [(0, .int .i64 x0)]) (cs := [.int .i64 x0]) hs sl24 ty3 rfl ⟨rfl, rfl, trivial⟩ (by decide) rfl (by decide) ?_
  clear hs; intro a3 J1 w hle2 hs hR4
  replace hR4 : Rs J1 1 a3 [x0].length 1 ([x0].flatMap e64) := hR4
  obtain ⟨r5, hr6, hm2⟩ := bind_some hm
  replace hm := hm2; clear hm2
  refine ow_call (fi := []) (vs := [.int .i64 0, .int .i64 11, .slice a3 ([x0].length) 1]) (ca := []) rfl ⟨rfl, rfl, rfl, trivial⟩ en9 (f9_ok _ _ _ hr6 hs hR4) ?_
  clear hs; rintro _ w ⟨J7, hle8, hs, rfl⟩
  replace hR4 := hR4.mono hle8
  refine ow_v (x_move (v := .bool r5) rfl) rfl ?_
  obtain ⟨b9, hmb9, hm2⟩ := bind_some hm
  replace hm := hm2; clear hm2
  refine ow_joinN 4 (fun f ds w => ∃ (I10 : Im), ds = [] ∧ Im.le J7 I10 ∧ Sat I10 (F) w ∧ f 12 = .bool b9 ∧ f 4 = .bool false) ?_ ?_
  · by_cases hc12 : r5 = true
    · rw [if_pos hc12] at hmb9
      refine ow_go (yl_of rfl rfl hc12) ?_
      refine ow_v (x_move (v := .int .i64 x1) rfl) rfl ?_
      refine ow_go (yl_of rfl rfl hc12) ?_
      refine ow_buildSlice (vp := [(0, .int .i64 x1)]) (cs := [.int .i64 x1]) hs sl24 ty3 rfl ⟨rfl, rfl, trivial⟩ (by decide) rfl (by decide) ?_
      clear hs; intro a15 J13 w hle14 hs hR16
      replace hR4 := hR4.mono hle14
      replace hR16 : Rs J13 1 a15 [x1].length 1 ([x1].flatMap e64) := hR16
      refine ow_go (yl_of rfl rfl hc12) ?_
      obtain ⟨r17, hr18, hmb92⟩ := bind_some hmb9
      replace hmb9 := hmb92; clear hmb92
      refine ow_call (fi := []) (vs := [.int .i64 1, .int .i64 4, .slice a15 ([x1].length) 1]) (ca := []) rfl ⟨rfl, rfl, rfl, trivial⟩ en9 (f9_ok _ _ _ hr18 hs hR16) ?_
      clear hs; rintro _ w ⟨J19, hle20, hs, rfl⟩
      replace hR4 := hR4.mono hle20
      replace hR16 := hR16.mono hle20
      refine ow_v (x_pick_t (v := .bool r17) ((rfl : ev _ _ _ = _).trans (congrArg Value.bool hc12)) rfl) rfl ?_
      refine ow_nil ?_
      obtain rfl := Option.some.inj hmb9
      exact ⟨J19, rfl, (hle14.trans hle20), hs, rfl, rfl⟩
    · rw [if_neg hc12] at hmb9
      refine ow_no (b := false) (yl_of rfl rfl (Bool.eq_false_iff.2 hc12)) rfl ?_
      refine ow_no (b := false) (yl_of rfl rfl (Bool.eq_false_iff.2 hc12)) rfl ?_
      refine ow_no (b := false) (yl_of rfl rfl (Bool.eq_false_iff.2 hc12)) rfl ?_
      refine ow_v (x_pick_f (v := .bool false) ((rfl : ev _ _ _ = _).trans (congrArg Value.bool (Bool.eq_false_iff.2 hc12))) rfl) rfl ?_
      refine ow_nil ?_
      obtain rfl := Option.some.inj hmb9
      exact ⟨J7, rfl, Im.le.refl _, hs, rfl, rfl⟩
  · clear hmb9 hs
    rintro f ds w ⟨I10, rfl, hle11, hs, htbb9, ht4_b9⟩
    replace hR4 := hR4.mono hle11
    refine ow_v (x_assign (v := .bool b9) htbb9) rfl ?_
    refine ow_nil ?_
    refine seqK_n ?_
    refine cw_ret ?_
    refine ret_ok (rs := [.tmp 4]) (vs := [.bool b9]) (.inr rfl) rfl ⟨rfl, trivial⟩ ?_
    obtain rfl := Option.some.inj hm
    exact ⟨I10, ((hle2.trans hle8).trans hle11), hs, rfl⟩

-- f25 cmp.isNaN[int]
def f25_m (x0 : Int) : Option Bool :=
  some (decide (¬ (x0 = x0)))
theorem f25_ok (x0 : Int) {r : Bool} (hm : f25_m x0 = some r)  {I : Im} {F : List HP} {w : World} (hs : Sat I (F) w)  :
    CV P 25 [.int .i64 x0] w fun v w' => ∃ (J : Im), Im.le I J ∧ Sat J (F) w' ∧ v = .bool r := by
  unfold f25_m at hm
  refine cv_of (n := 6) Go.Proofs.Try.func25 rfl rfl (Nat.le_of_ble_eq_true rfl) ?_
  refine cw_seq ?_
  refine cw_region ?_
  refine ow_v (x_assign (v := .bool false) rfl) rfl ?_
  refine ow_nil ?_
  refine seqK_n ?_
  refine cw_seq ?_
  refine cw_region ?_
  refine ow_v (x_move (v := .int .i64 x0) rfl) rfl ?_
  refine ow_v (x_move (v := .int .i64 x0) rfl) rfl ?_
  refine ow_v (x_neqD (k := .i64) (a := x0) (b := x0) rfl rfl) rfl ?_
  refine ow_v (x_assign (v := .bool (decide (¬ (x0 = x0)))) rfl) rfl ?_
  refine ow_nil ?_
  refine seqK_n ?_
  refine cw_ret ?_
  refine ret_ok (rs := [.tmp 2]) (vs := [.bool (decide (¬ (x0 = x0)))]) (.inr rfl) rfl ⟨rfl, trivial⟩ ?_
  obtain rfl := Option.some.inj hm
  exact ⟨I, Im.le.refl _, hs, rfl⟩

-- f17 cmp.Compare[int]
def f17_m (x0 : Int) (x1 : Int) : Option Int :=
  ((f25_m x0).bind fun r1 => ((f25_m x1).bind fun r5 => (if r1 = true then (if r5 = true then some 0 else some (-1)) else (if r5 = true then some 1 else (if x0 < x1 then some (-1) else (if x1 < x0 then some 1 else some 0))))))
theorem f17_ok (x0 : Int) (x1 : Int) {r : Int} (hm : f17_m x0 x1 = some r)  {I : Im} {F : List HP} {w : World} (hs : Sat I (F) w)  :
    CV P 17 [.int .i64 x0, .int .i64 x1] w fun v w' => ∃ (J : Im), Im.le I J ∧ Sat J (F) w' ∧ v = .int .i64 r := by
  unfold f17_m at hm
  refine cv_of (n := 20) Go.Proofs.Try.func17 rfl rfl (Nat.le_of_ble_eq_true rfl) ?_
  refine cw_seq ?_
  refine cw_region ?_
  refine ow_v (x_assign (v := .int .i64 0) rfl) rfl ?_
  refine ow_nil ?_
  refine seqK_n ?_
  refine cw_seq ?_
  refine cw_region ?_
  refine ow_v (x_move (v := .int .i64 x0) rfl) rfl ?_
  obtain ⟨r1, hr2, hm2⟩ := bind_some hm
  replace hm := hm2; clear hm2
  refine ow_call (fi := []) (vs := [.int .i64 x0]) (ca := []) rfl ⟨rfl, trivial⟩ en25 (f25_ok _ hr2 hs) ?_
  clear hs; rintro _ w ⟨J3, hle4, hs, rfl⟩
  refine ow_v (x_assign (v := .bool r1) rfl) rfl ?_
  refine ow_nil ?_
  refine seqK_n ?_
  refine cw_seq ?_
  refine cw_region ?_
  refine ow_v (x_move (v := .int .i64 x1) rfl) rfl ?_
  obtain ⟨r5, hr6, hm2⟩ := bind_some hm
  replace hm := hm2; clear hm2
  refine ow_call (fi := []) (vs := [.int .i64 x1]) (ca := []) rfl ⟨rfl, trivial⟩ en25 (f25_ok _ hr6 hs) ?_
  clear hs; rintro _ w ⟨J7, hle8, hs, rfl⟩
  refine ow_v (x_assign (v := .bool r5) rfl) rfl ?_
  refine ow_nil ?_
  refine seqK_n ?_
  refine cw_seq ?_
  refine cw_seq ?_
  refine cw_region ?_
  refine ow_v (x_move (v := .bool r1) rfl) rfl ?_
  refine ow_nil ?_
  refine seqK_n ?_
  by_cases hc9 : r1 = true
  · rw [if_pos hc9] at hm
    refine cw_if_t rfl hc9 ?_
    refine cw_seq ?_
    refine cw_seq ?_
    refine cw_region ?_
    refine ow_v (x_move (v := .bool r5) rfl) rfl ?_
    refine ow_nil ?_
    refine seqK_n ?_
    by_cases hc10 : r5 = true
    · rw [if_pos hc10] at hm
      refine cw_if_t rfl hc10 ?_
      refine cw_seq ?_
      refine cw_region ?_
      refine ow_v (x_assign (v := .int .i64 0) rfl) rfl ?_
      refine ow_nil ?_
      refine seqK_n ?_
      refine cw_ret ?_
      refine seqK_r ?_
      refine seqK_r ?_
      refine ret_ok (rs := [.tmp 4]) (vs := [.int .i64 0]) (.inr rfl) rfl ⟨rfl, trivial⟩ ?_
      obtain rfl := Option.some.inj hm
      exact ⟨J7, (hle4.trans hle8), hs, rfl⟩
    · rw [if_neg hc10] at hm
      refine cw_if_f rfl (Bool.eq_false_iff.2 hc10) ?_
      refine cw_skip ?_
      refine seqK_n ?_
      refine cw_seq ?_
      refine cw_region ?_
      refine ow_v (x_assign (v := .int .i64 (-1)) rfl) rfl ?_
      refine ow_nil ?_
      refine seqK_n ?_
      refine cw_ret ?_
      refine seqK_r ?_
      refine ret_ok (rs := [.tmp 4]) (vs := [.int .i64 (-1)]) (.inr rfl) rfl ⟨rfl, trivial⟩ ?_
      obtain rfl := Option.some.inj hm
      exact ⟨J7, (hle4.trans hle8), hs, rfl⟩
  · rw [if_neg hc9] at hm
    refine cw_if_f rfl (Bool.eq_false_iff.2 hc9) ?_
    refine cw_skip ?_
    refine seqK_n ?_
    refine cw_seq ?_
    refine cw_seq ?_
    refine cw_region ?_
    refine ow_v (x_move (v := .bool r5) rfl) rfl ?_
    refine ow_nil ?_
    refine seqK_n ?_
    by_cases hc11 : r5 = true
    · rw [if_pos hc11] at hm
      refine cw_if_t rfl hc11 ?_
      refine cw_seq ?_
      refine cw_region ?_
      refine ow_v (x_assign (v := .int .i64 1) rfl) rfl ?_
      refine ow_nil ?_
      refine seqK_n ?_
      refine cw_ret ?_
      refine seqK_r ?_
      refine ret_ok (rs := [.tmp 4]) (vs := [.int .i64 1]) (.inr rfl) rfl ⟨rfl, trivial⟩ ?_
      obtain rfl := Option.some.inj hm
      exact ⟨J7, (hle4.trans hle8), hs, rfl⟩
    · rw [if_neg hc11] at hm
      refine cw_if_f rfl (Bool.eq_false_iff.2 hc11) ?_
      refine cw_skip ?_
      refine seqK_n ?_
      refine cw_seq ?_
      refine cw_seq ?_
      refine cw_region ?_
      refine ow_v (x_move (v := .int .i64 x0) rfl) rfl ?_
      refine ow_v (x_move (v := .int .i64 x1) rfl) rfl ?_
      refine ow_v (x_lss (k := .i64) (a := x0) (b := x1) rfl rfl) rfl ?_
      refine ow_nil ?_
      refine seqK_n ?_
      by_cases hc12 : x0 < x1
      · rw [if_pos hc12] at hm
        refine cw_if_t rfl (decide_eq_true hc12) ?_
        refine cw_seq ?_
        refine cw_region ?_
        refine ow_v (x_assign (v := .int .i64 (-1)) rfl) rfl ?_
        refine ow_nil ?_
        refine seqK_n ?_
        refine cw_ret ?_
        refine seqK_r ?_
        refine ret_ok (rs := [.tmp 4]) (vs := [.int .i64 (-1)]) (.inr rfl) rfl ⟨rfl, trivial⟩ ?_
        obtain rfl := Option.some.inj hm
        exact ⟨J7, (hle4.trans hle8), hs, rfl⟩
      · rw [if_neg hc12] at hm
        refine cw_if_f rfl (decide_eq_false hc12) ?_
        refine cw_skip ?_
        refine seqK_n ?_
        refine cw_seq ?_
        refine cw_seq ?_
        refine cw_region ?_
        refine ow_v (x_move (v := .int .i64 x0) rfl) rfl ?_
        refine ow_v (x_move (v := .int .i64 x1) rfl) rfl ?_
        refine ow_v (x_gtr (k := .i64) (a := x0) (b := x1) rfl rfl) rfl ?_
        refine ow_nil ?_
        refine seqK_n ?_
        by_cases hc13 : x1 < x0
        · rw [if_pos hc13] at hm
          refine cw_if_t rfl (decide_eq_true hc13) ?_
          refine cw_seq ?_
          refine cw_region ?_
          refine ow_v (x_assign (v := .int .i64 1) rfl) rfl ?_
          refine ow_nil ?_
          refine seqK_n ?_
          refine cw_ret ?_
          refine seqK_r ?_
          refine ret_ok (rs := [.tmp 4]) (vs := [.int .i64 1]) (.inr rfl) rfl ⟨rfl, trivial⟩ ?_
          obtain rfl := Option.some.inj hm
          exact ⟨J7, (hle4.trans hle8), hs, rfl⟩
        · rw [if_neg hc13] at hm
          refine cw_if_f rfl (decide_eq_false hc13) ?_
          refine cw_skip ?_
          refine seqK_n ?_
          refine cw_seq ?_
          refine cw_region ?_
          refine ow_v (x_assign (v := .int .i64 0) rfl) rfl ?_
          refine ow_nil ?_
          refine seqK_n ?_
          refine cw_ret ?_
          refine ret_ok (rs := [.tmp 4]) (vs := [.int .i64 0]) (.inr rfl) rfl ⟨rfl, trivial⟩ ?_
          obtain rfl := Option.some.inj hm
          exact ⟨J7, (hle4.trans hle8), hs, rfl⟩

-- f27 sightbench/find.single
def f27_m (x0_0 : Int) (x0_1 : Int) (x0_2 : Int) (x0_3 : Int) : Option (Int × Int × Int × Int × Int × Int) :=
  some (x0_0, x0_1, x0_0, x0_1, x0_2, x0_3)
theorem f27_ok (x0_0 : Int) (x0_1 : Int) (x0_2 : Int) (x0_3 : Int) {r : Int × Int × Int × Int × Int × Int} (hm : f27_m x0_0 x0_1 x0_2 x0_3 = some r)  {I : Im} {F : List HP} {w : World} (hs : Sat I (F) w)  :
    CV P 27 [.agg #[.int .i64 x0_0, .int .i64 x0_1, .int .i64 x0_2, .int .i64 x0_3]] w fun v w' => ∃ (J : Im), Im.le I J ∧ Sat J (F) w' ∧ v = .agg #[.int .i64 r.1, .int .i64 r.2.1, .int .i64 r.2.2.1, .int .i64 r.2.2.2.1, .int .i64 r.2.2.2.2.1, .int .i64 r.2.2.2.2.2] := by
  unfold f27_m at hm
  refine cv_of (n := 16) Go.Proofs.Try.func27 rfl rfl (Nat.le_of_ble_eq_true rfl) ?_
  refine cw_seq ?_
  refine cw_region ?_
  refine ow_box (v := .agg #[.int .i64 x0_0, .int .i64 x0_1, .int .i64 x0_2, .int .i64 x0_3]) (cs := [.int .i64 x0_0, .int .i64 x0_1, .int .i64 x0_2, .int .i64 x0_3]) hs rfl rfl ?_
  clear hs; intro b1 w hs
  refine ow_alloc hs ty49 rfl ?_
  clear hs; intro b3 w hs
  refine ow_nil ?_
  refine seqK_n ?_
  refine cw_seq ?_
  refine cw_region ?_
  refine ow_field (b := b1) (o := 0) fl38_0 rfl ?_
  refine ow_load (k := 1) (vs := [.int .i64 x0_0]) (v := .int .i64 x0_0) hs rfl rfl ty3 rfl rfl rfl ?_
  refine ow_field (b := b1) (o := 0) fl38_1 rfl ?_
  refine ow_load (k := 1) (vs := [.int .i64 x0_1]) (v := .int .i64 x0_1) hs rfl rfl ty3 rfl rfl rfl ?_
  refine ow_field (b := b1) (o := 0) fl38_0 rfl ?_
  refine ow_load (k := 1) (vs := [.int .i64 x0_0]) (v := .int .i64 x0_0) hs rfl rfl ty3 rfl rfl rfl ?_
  refine ow_field (b := b1) (o := 0) fl38_1 rfl ?_
  refine ow_load (k := 1) (vs := [.int .i64 x0_1]) (v := .int .i64 x0_1) hs rfl rfl ty3 rfl rfl rfl ?_
  refine ow_field (b := b1) (o := 0) fl38_2 rfl ?_
  refine ow_load (k := 1) (vs := [.int .i64 x0_2]) (v := .int .i64 x0_2) hs rfl rfl ty3 rfl rfl rfl ?_
  refine ow_field (b := b1) (o := 0) fl38_3 rfl ?_
  refine ow_load (k := 1) (vs := [.int .i64 x0_3]) (v := .int .i64 x0_3) hs rfl rfl ty3 rfl rfl rfl ?_
  refine ow_build (vp := [(0, .int .i64 x0_0), (1, .int .i64 x0_1), (2, .int .i64 x0_0), (3, .int .i64 x0_1), (4, .int .i64 x0_2), (5, .int .i64 x0_3)]) (cs := [.int .i64 x0_0, .int .i64 x0_1, .int .i64 x0_0, .int .i64 x0_1, .int .i64 x0_2, .int .i64 x0_3]) st49 ty49 ⟨rfl, rfl, rfl, rfl, rfl, rfl, rfl, rfl, rfl, rfl, rfl, rfl, trivial⟩ rfl ?_
  refine ow_store (k := 0) (vs := [.int .i64 x0_0, .int .i64 x0_1, .int .i64 x0_0, .int .i64 x0_1, .int .i64 x0_2, .int .i64 x0_3]) (cs' := [.int .i64 x0_0, .int .i64 x0_1, .int .i64 x0_0, .int .i64 x0_1, .int .i64 x0_2, .int .i64 x0_3]) hs rfl rfl rfl ty49 rfl rfl (Nat.le_of_ble_eq_true rfl) rfl rfl ?_
  clear hs; intro w hs
  refine ow_nil ?_
  refine seqK_n ?_
  refine cw_ret ?_
  refine ret_ok (rs := [.cell 2 49]) (vs := [.agg #[.int .i64 x0_0, .int .i64 x0_1, .int .i64 x0_0, .int .i64 x0_1, .int .i64 x0_2, .int .i64 x0_3]]) (.inr rfl) rfl ⟨⟨_, true, _, [.int .i64 x0_0, .int .i64 x0_1, .int .i64 x0_0, .int .i64 x0_1, .int .i64 x0_2, .int .i64 x0_3], rfl, ty49, CA_blk (off := 0) (m := 6) (hs.blk (k := 0) rfl), rfl, rfl⟩, trivial⟩ ?_
  obtain rfl := Option.some.inj hm
  replace hs := hs.erase 0
  replace hs := hs.erase 0
  exact ⟨I, Im.le.refl _, hs, rfl⟩

-- f28 sightbench/find.allowed
def f28_m (x0_0 : Int) (x0_1 : Int) (x0_2 : List Int) (x1_0 : Int) (x1_1 : Int) (x1_2 : Int) (x1_3 : Int) (x1_4 : Int) (x1_5 : Int) : Option Bool :=
  ((f9_m 0 (w64 (x0_0 - 1)) [x1_0, x1_2]).bind fun r9 => ((if r9 = true then ((f9_m 0 (w64 (x0_1 - 1)) [x1_1, x1_3]).bind fun r21 => some r21) else some false).bind fun b13 => ((if b13 = true then some (decide (x1_0 ≤ x1_2)) else some false).bind fun b25 => ((if b25 = true then some (decide (x1_1 ≤ x1_3)) else some false).bind fun b29 => ((if b29 = true then ((f42_m x1_4 x1_5).bind fun r37 => some r37) else some false).bind fun b33 => some b33)))))
theorem f28_ok (x0_0 : Int) (x0_1 : Int) (x0_2 : List Int) (x1_0 : Int) (x1_1 : Int) (x1_2 : Int) (x1_3 : Int) (x1_4 : Int) (x1_5 : Int) {r : Bool} (hm : f28_m x0_0 x0_1 x0_2 x1_0 x1_1 x1_2 x1_3 x1_4 x1_5 = some r) {ax0_2 : Option Addr} {cx0_2 : Nat} {I : Im} {F : List HP} {w : World} (hs : Sat I (F) w) (hx0_2 : Rs I 1 ax0_2 x0_2.length cx0_2 (x0_2.flatMap e64)) :
    CV P 28 [.agg #[.int .i64 x0_0, .int .i64 x0_1, .slice ax0_2 x0_2.length cx0_2], .agg #[.int .i64 x1_0, .int .i64 x1_1, .int .i64 x1_2, .int .i64 x1_3, .int .i64 x1_4, .int .i64 x1_5]] w fun v w' => ∃ (J : Im), Im.le I J ∧ Sat J (F) w' ∧ v = .bool r := by
  unfold f28_m at hm
  refine cv_of (n := 46) Go.Proofs.Try.func28 rfl rfl (Nat.le_of_ble_eq_true rfl) ?_
  refine cw_seq ?_
  refine cw_region ?_
  refine ow_box (v := .agg #[.int .i64 x0_0, .int .i64 x0_1, .slice ax0_2 x0_2.length cx0_2]) (cs := [.int .i64 x0_0, .int .i64 x0_1, .slice ax0_2 x0_2.length cx0_2]) hs rfl rfl ?_
  clear hs; intro b1 w hs
  refine ow_box (v := .agg #[.int .i64 x1_0, .int .i64 x1_1, .int .i64 x1_2, .int .i64 x1_3, .int .i64 x1_4, .int .i64 x1_5]) (cs := [.int .i64 x1_0, .int .i64 x1_1, .int .i64 x1_2, .int .i64 x1_3, .int .i64 x1_4, .int .i64 x1_5]) hs rfl rfl ?_
  clear hs; intro b3 w hs
  refine ow_v (x_assign (v := .bool false) rfl) rfl ?_
  refine ow_nil ?_
  refine seqK_n ?_
  refine cw_seq ?_
  refine cw_region ?_
  refine ow_field (b := b1) (o := 0) fl26_0 rfl ?_
  refine ow_load (k := 1) (vs := [.int .i64 x0_0]) (v := .int .i64 x0_0) hs rfl rfl ty3 rfl rfl rfl ?_
  refine ow_v (x_sub (k := .i64) (a := x0_0) (b := 1) rfl rfl) rfl ?_
  refine ow_field (b := b3) (o := 0) fl49_0 rfl ?_
  refine ow_load (k := 0) (vs := [.int .i64 x1_0]) (v := .int .i64 x1_0) hs rfl rfl ty3 rfl rfl rfl ?_
  refine ow_field (b := b3) (o := 0) fl49_2 rfl ?_
  refine ow_load (k := 0) (vs := [.int .i64 x1_2]) (v := .int .i64 x1_2) hs rfl rfl ty3 rfl rfl rfl ?_
  refine ow_buildSlice (vp := [(0, .int .i64 x1_0), (1, .int .i64 x1_2)]) (cs := [.int .i64 x1_0, .int .i64 x1_2]) hs sl24 ty3 rfl ⟨rfl, rfl, rfl, rfl, trivial⟩ (by decide) rfl (by decide) ?_
  clear hs; intro a7 J5 w hle6 hs hR8
  replace hx0_2 := hx0_2.mono hle6
  replace hR8 : Rs J5 1 a7 [x1_0, x1_2].length 2 ([x1_0, x1_2].flatMap e64) := hR8
  obtain ⟨r9, hr10, hm2⟩ := bind_some hm
  replace hm := hm2; clear hm2
  refine ow_call (fi := []) (vs := [.int .i64 0, .int .i64 (w64 (x0_0 - 1)), .slice a7 ([x1_0, x1_2].length) 2]) (ca := []) rfl ⟨rfl, rfl, rfl, trivial⟩ en9 (f9_ok _ _ _ hr10 hs hR8) ?_
  clear hs; rintro _ w ⟨J11, hle12, hs, rfl⟩
  replace hx0_2 := hx0_2.mono hle12
  replace hR8 := hR8.mono hle12
  refine ow_v (x_move (v := .bool r9) rfl) rfl ?_
  obtain ⟨b13, hmb13, hm2⟩ := bind_some hm
  replace hm := hm2; clear hm2
  refine ow_joinN 10 (fun f ds w => ∃ (I14 : Im), ds = [] ∧ Im.le J11 I14 ∧ Sat I14 (blk b3 49 [.int .i64 x1_0, .int .i64 x1_1, .int .i64 x1_2, .int .i64 x1_3, .int .i64 x1_4, .int .i64 x1_5] :: blk b1 26 [.int .i64 x0_0, .int .i64 x0_1, .slice ax0_2 x0_2.length cx0_2] :: F) w ∧ f 24 = .bool b13 ∧ f 3 = .pointer (some ⟨b3, 0, none⟩) ∧ f 4 = .bool false) ?_ ?_
  · by_cases hc16 : r9 = true
    · rw [if_pos hc16] at hmb13
      refine ow_go (yl_of rfl rfl hc16) ?_
      refine ow_field (b := b1) (o := 0) fl26_1 rfl ?_
      refine ow_go (yl_of rfl rfl hc16) ?_
      refine ow_load (k := 1) (vs := [.int .i64 x0_1]) (v := .int .i64 x0_1) hs rfl rfl ty3 rfl rfl rfl ?_
      refine ow_go (yl_of rfl rfl hc16) ?_
      refine ow_v (x_sub (k := .i64) (a := x0_1) (b := 1) rfl rfl) rfl ?_
      refine ow_go (yl_of rfl rfl hc16) ?_
      refine ow_field (b := b3) (o := 0) fl49_1 rfl ?_
      refine ow_go (yl_of rfl rfl hc16) ?_
      refine ow_load (k := 0) (vs := [.int .i64 x1_1]) (v := .int .i64 x1_1) hs rfl rfl ty3 rfl rfl rfl ?_
      refine ow_go (yl_of rfl rfl hc16) ?_
      refine ow_field (b := b3) (o := 0) fl49_3 rfl ?_
      refine ow_go (yl_of rfl rfl hc16) ?_
      refine ow_load (k := 0) (vs := [.int .i64 x1_3]) (v := .int .i64 x1_3) hs rfl rfl ty3 rfl rfl rfl ?_
      refine ow_go (yl_of rfl rfl hc16) ?_
      refine ow_buildSlice (vp := [(0, .int .i64 x1_1), (1, .int .i64 x1_3)]) (cs := [.int .i64 x1_1, .int .i64 x1_3]) hs sl24 ty3 rfl ⟨rfl, rfl, rfl, rfl, trivial⟩ (by decide) rfl (by decide) ?_
      clear hs; intro a19 J17 w hle18 hs hR20
      replace hx0_2 := hx0_2.mono hle18
      replace hR8 := hR8.mono hle18
      replace hR20 : Rs J17 1 a19 [x1_1, x1_3].length 2 ([x1_1, x1_3].flatMap e64) := hR20
      refine ow_go (yl_of rfl rfl hc16) ?_
      obtain ⟨r21, hr22, hmb132⟩ := bind_some hmb13
      replace hmb13 := hmb132; clear hmb132
      refine ow_call (fi := []) (vs := [.int .i64 0, .int .i64 (w64 (x0_1 - 1)), .slice a19 ([x1_1, x1_3].length) 2]) (ca := []) rfl ⟨rfl, rfl, rfl, trivial⟩ en9 (f9_ok _ _ _ hr22 hs hR20) ?_
      clear hs; rintro _ w ⟨J23, hle24, hs, rfl⟩
      replace hx0_2 := hx0_2.mono hle24
      replace hR8 := hR8.mono hle24
      replace hR20 := hR20.mono hle24
      refine ow_v (x_pick_t (v := .bool r21) ((rfl : ev _ _ _ = _).trans (congrArg Value.bool hc16)) rfl) rfl ?_
      refine ow_nil ?_
      obtain rfl := Option.some.inj hmb13
      exact ⟨J23, rfl, (hle18.trans hle24), hs, rfl, rfl, rfl⟩
    · rw [if_neg hc16] at hmb13
      refine ow_no (b := false) (yl_of rfl rfl (Bool.eq_false_iff.2 hc16)) rfl ?_
      refine ow_no (b := false) (yl_of rfl rfl (Bool.eq_false_iff.2 hc16)) rfl ?_
      refine ow_no (b := false) (yl_of rfl rfl (Bool.eq_false_iff.2 hc16)) rfl ?_
      refine ow_no (b := false) (yl_of rfl rfl (Bool.eq_false_iff.2 hc16)) rfl ?_
      refine ow_no (b := false) (yl_of rfl rfl (Bool.eq_false_iff.2 hc16)) rfl ?_
      refine ow_no (b := false) (yl_of rfl rfl (Bool.eq_false_iff.2 hc16)) rfl ?_
      refine ow_no (b := false) (yl_of rfl rfl (Bool.eq_false_iff.2 hc16)) rfl ?_
      refine ow_no (b := false) (yl_of rfl rfl (Bool.eq_false_iff.2 hc16)) rfl ?_
      refine ow_no (b := false) (yl_of rfl rfl (Bool.eq_false_iff.2 hc16)) rfl ?_
      refine ow_v (x_pick_f (v := .bool false) ((rfl : ev _ _ _ = _).trans (congrArg Value.bool (Bool.eq_false_iff.2 hc16))) rfl) rfl ?_
      refine ow_nil ?_
      obtain rfl := Option.some.inj hmb13
      exact ⟨J11, rfl, Im.le.refl _, hs, rfl, rfl, rfl⟩
  · clear hmb13 hs
    rintro f ds w ⟨I14, rfl, hle15, hs, htbb13, ht3_b13, ht4_b13⟩
    replace hx0_2 := hx0_2.mono hle15
    replace hR8 := hR8.mono hle15
    refine ow_v (x_move (v := .bool b13) htbb13) rfl ?_
    obtain ⟨b25, hmb25, hm2⟩ := bind_some hm
    replace hm := hm2; clear hm2
    refine ow_joinN 6 (fun f ds w => ∃ (I26 : Im), ds = [] ∧ Im.le I14 I26 ∧ Sat I26 (blk b3 49 [.int .i64 x1_0, .int .i64 x1_1, .int .i64 x1_2, .int .i64 x1_3, .int .i64 x1_4, .int .i64 x1_5] :: blk b1 26 [.int .i64 x0_0, .int .i64 x0_1, .slice ax0_2 x0_2.length cx0_2] :: F) w ∧ f 31 = .bool b25 ∧ f 3 = .pointer (some ⟨b3, 0, none⟩) ∧ f 4 = .bool false) ?_ ?_
    · by_cases hc28 : b13 = true
      · rw [if_pos hc28] at hmb25
        refine ow_go (yl_of rfl rfl hc28) ?_
        refine ow_field (b := b3) (o := 0) fl49_0 ht3_b13 ?_
        refine ow_go (yl_of rfl rfl hc28) ?_
        refine ow_load (k := 0) (vs := [.int .i64 x1_0]) (v := .int .i64 x1_0) hs rfl rfl ty3 rfl rfl rfl ?_
        refine ow_go (yl_of rfl rfl hc28) ?_
        refine ow_field (b := b3) (o := 0) fl49_2 ht3_b13 ?_
        refine ow_go (yl_of rfl rfl hc28) ?_
        refine ow_load (k := 0) (vs := [.int .i64 x1_2]) (v := .int .i64 x1_2) hs rfl rfl ty3 rfl rfl rfl ?_
        refine ow_go (yl_of rfl rfl hc28) ?_
        refine ow_v (x_leq (k := .i64) (a := x1_0) (b := x1_2) rfl rfl) rfl ?_
        refine ow_v (x_pick_t (v := .bool (decide (x1_0 ≤ x1_2))) ((rfl : ev _ _ _ = _).trans (congrArg Value.bool hc28)) rfl) rfl ?_
        refine ow_nil ?_
        obtain rfl := Option.some.inj hmb25
        exact ⟨I14, rfl, Im.le.refl _, hs, rfl, ht3_b13, ht4_b13⟩
      · rw [if_neg hc28] at hmb25
        refine ow_no (b := false) (yl_of rfl rfl (Bool.eq_false_iff.2 hc28)) rfl ?_
        refine ow_no (b := false) (yl_of rfl rfl (Bool.eq_false_iff.2 hc28)) rfl ?_
        refine ow_no (b := false) (yl_of rfl rfl (Bool.eq_false_iff.2 hc28)) rfl ?_
        refine ow_no (b := false) (yl_of rfl rfl (Bool.eq_false_iff.2 hc28)) rfl ?_
        refine ow_no (b := false) (yl_of rfl rfl (Bool.eq_false_iff.2 hc28)) rfl ?_
        refine ow_v (x_pick_f (v := .bool false) ((rfl : ev _ _ _ = _).trans (congrArg Value.bool (Bool.eq_false_iff.2 hc28))) rfl) rfl ?_
        refine ow_nil ?_
        obtain rfl := Option.some.inj hmb25
        exact ⟨I14, rfl, Im.le.refl _, hs, rfl, ht3_b13, ht4_b13⟩
    · clear hmb25 hs
      rintro f ds w ⟨I26, rfl, hle27, hs, htbb25, ht3_b25, ht4_b25⟩
      replace hx0_2 := hx0_2.mono hle27
      replace hR8 := hR8.mono hle27
      refine ow_v (x_move (v := .bool b25) htbb25) rfl ?_
      obtain ⟨b29, hmb29, hm2⟩ := bind_some hm
      replace hm := hm2; clear hm2
      refine ow_joinN 6 (fun f ds w => ∃ (I30 : Im), ds = [] ∧ Im.le I26 I30 ∧ Sat I30 (blk b3 49 [.int .i64 x1_0, .int .i64 x1_1, .int .i64 x1_2, .int .i64 x1_3, .int .i64 x1_4, .int .i64 x1_5] :: blk b1 26 [.int .i64 x0_0, .int .i64 x0_1, .slice ax0_2 x0_2.length cx0_2] :: F) w ∧ f 38 = .bool b29 ∧ f 3 = .pointer (some ⟨b3, 0, none⟩) ∧ f 4 = .bool false) ?_ ?_
      · by_cases hc32 : b25 = true
        · rw [if_pos hc32] at hmb29
          refine ow_go (yl_of rfl rfl hc32) ?_
          refine ow_field (b := b3) (o := 0) fl49_1 ht3_b25 ?_
          refine ow_go (yl_of rfl rfl hc32) ?_
          refine ow_load (k := 0) (vs := [.int .i64 x1_1]) (v := .int .i64 x1_1) hs rfl rfl ty3 rfl rfl rfl ?_
          refine ow_go (yl_of rfl rfl hc32) ?_
          refine ow_field (b := b3) (o := 0) fl49_3 ht3_b25 ?_
          refine ow_go (yl_of rfl rfl hc32) ?_
          refine ow_load (k := 0) (vs := [.int .i64 x1_3]) (v := .int .i64 x1_3) hs rfl rfl ty3 rfl rfl rfl ?_
          refine ow_go (yl_of rfl rfl hc32) ?_
          refine ow_v (x_leq (k := .i64) (a := x1_1) (b := x1_3) rfl rfl) rfl ?_
          refine ow_v (x_pick_t (v := .bool (decide (x1_1 ≤ x1_3))) ((rfl : ev _ _ _ = _).trans (congrArg Value.bool hc32)) rfl) rfl ?_
          refine ow_nil ?_
          obtain rfl := Option.some.inj hmb29
          exact ⟨I26, rfl, Im.le.refl _, hs, rfl, ht3_b25, ht4_b25⟩
        · rw [if_neg hc32] at hmb29
          refine ow_no (b := false) (yl_of rfl rfl (Bool.eq_false_iff.2 hc32)) rfl ?_
          refine ow_no (b := false) (yl_of rfl rfl (Bool.eq_false_iff.2 hc32)) rfl ?_
          refine ow_no (b := false) (yl_of rfl rfl (Bool.eq_false_iff.2 hc32)) rfl ?_
          refine ow_no (b := false) (yl_of rfl rfl (Bool.eq_false_iff.2 hc32)) rfl ?_
          refine ow_no (b := false) (yl_of rfl rfl (Bool.eq_false_iff.2 hc32)) rfl ?_
          refine ow_v (x_pick_f (v := .bool false) ((rfl : ev _ _ _ = _).trans (congrArg Value.bool (Bool.eq_false_iff.2 hc32))) rfl) rfl ?_
          refine ow_nil ?_
          obtain rfl := Option.some.inj hmb29
          exact ⟨I26, rfl, Im.le.refl _, hs, rfl, ht3_b25, ht4_b25⟩
      · clear hmb29 hs
        rintro f ds w ⟨I30, rfl, hle31, hs, htbb29, ht3_b29, ht4_b29⟩
        replace hx0_2 := hx0_2.mono hle31
        replace hR8 := hR8.mono hle31
        refine ow_v (x_move (v := .bool b29) htbb29) rfl ?_
        obtain ⟨b33, hmb33, hm2⟩ := bind_some hm
        replace hm := hm2; clear hm2
        refine ow_joinN 6 (fun f ds w => ∃ (I34 : Im), ds = [] ∧ Im.le I30 I34 ∧ Sat I34 (blk b3 49 [.int .i64 x1_0, .int .i64 x1_1, .int .i64 x1_2, .int .i64 x1_3, .int .i64 x1_4, .int .i64 x1_5] :: blk b1 26 [.int .i64 x0_0, .int .i64 x0_1, .slice ax0_2 x0_2.length cx0_2] :: F) w ∧ f 45 = .bool b33 ∧ f 4 = .bool false) ?_ ?_
        · by_cases hc36 : b29 = true
          · rw [if_pos hc36] at hmb33
            refine ow_go (yl_of rfl rfl hc36) ?_
            refine ow_field (b := b3) (o := 0) fl49_4 ht3_b29 ?_
            refine ow_go (yl_of rfl rfl hc36) ?_
            refine ow_load (k := 0) (vs := [.int .i64 x1_4]) (v := .int .i64 x1_4) hs rfl rfl ty3 rfl rfl rfl ?_
            refine ow_go (yl_of rfl rfl hc36) ?_
            refine ow_field (b := b3) (o := 0) fl49_5 ht3_b29 ?_
            refine ow_go (yl_of rfl rfl hc36) ?_
            refine ow_load (k := 0) (vs := [.int .i64 x1_5]) (v := .int .i64 x1_5) hs rfl rfl ty3 rfl rfl rfl ?_
            refine ow_go (yl_of rfl rfl hc36) ?_
            obtain ⟨r37, hr38, hmb332⟩ := bind_some hmb33
            replace hmb33 := hmb332; clear hmb332
            refine ow_call (fi := []) (vs := [.int .i64 x1_4, .int .i64 x1_5]) (ca := []) rfl ⟨rfl, rfl, trivial⟩ en42 (f42_ok _ _ hr38 hs) ?_
            clear hs; rintro _ w ⟨J39, hle40, hs, rfl⟩
            replace hx0_2 := hx0_2.mono hle40
            replace hR8 := hR8.mono hle40
            refine ow_v (x_pick_t (v := .bool r37) ((rfl : ev _ _ _ = _).trans (congrArg Value.bool hc36)) rfl) rfl ?_
            refine ow_nil ?_
            obtain rfl := Option.some.inj hmb33
            exact ⟨J39, rfl, hle40, hs, rfl, ht4_b29⟩
          · rw [if_neg hc36] at hmb33
            refine ow_no (b := false) (yl_of rfl rfl (Bool.eq_false_iff.2 hc36)) rfl ?_
            refine ow_no (b := false) (yl_of rfl rfl (Bool.eq_false_iff.2 hc36)) rfl ?_
            refine ow_no (b := false) (yl_of rfl rfl (Bool.eq_false_iff.2 hc36)) rfl ?_
            refine ow_no (b := false) (yl_of rfl rfl (Bool.eq_false_iff.2 hc36)) rfl ?_
            refine ow_no (b := false) (yl_of rfl rfl (Bool.eq_false_iff.2 hc36)) rfl ?_
            refine ow_v (x_pick_f (v := .bool false) ((rfl : ev _ _ _ = _).trans (congrArg Value.bool (Bool.eq_false_iff.2 hc36))) rfl) rfl ?_
            refine ow_nil ?_
            obtain rfl := Option.some.inj hmb33
            exact ⟨I30, rfl, Im.le.refl _, hs, rfl, ht4_b29⟩
        · clear hmb33 hs
          rintro f ds w ⟨I34, rfl, hle35, hs, htbb33, ht4_b33⟩
          replace hx0_2 := hx0_2.mono hle35
          replace hR8 := hR8.mono hle35
          refine ow_v (x_assign (v := .bool b33) htbb33) rfl ?_
          refine ow_nil ?_
          refine seqK_n ?_
          refine cw_ret ?_
          refine ret_ok (rs := [.tmp 4]) (vs := [.bool b33]) (.inr rfl) rfl ⟨rfl, trivial⟩ ?_
          obtain rfl := Option.some.inj hm
          replace hs := hs.erase 0
          replace hs := hs.erase 0
          exact ⟨I34, (((((hle6.trans hle12).trans hle15).trans hle27).trans hle31).trans hle35), hs, rfl⟩

-- f20 sightbench/find.valid
def f20_m (x0_0 : Int) (x0_1 : Int) (x0_2 : List Int) : Option Bool :=
  ((f9_m 1 8 [x0_0, x0_1]).bind fun r7 => ((if r7 = true then some (decide ((x0_2.length : Int) = (w64 (x0_0 * x0_1)))) else some false).bind fun b11 => ((if b11 = true then ((f9_m (-1) 255 x0_2).bind fun r19 => some r19) else some false).bind fun b15 => ((if b15 = true then ((f30_m x0_2).bind fun r27 => some (decide (0 ≤ r27))) else some false).bind fun b23 => some b23))))
theorem f20_ok (x0_0 : Int) (x0_1 : Int) (x0_2 : List Int) {r : Bool} (hm : f20_m x0_0 x0_1 x0_2 = some r) {ax0_2 : Option Addr} {cx0_2 : Nat} {I : Im} {F : List HP} {w : World} (hs : Sat I (F) w) (hx0_2 : Rs I 1 ax0_2 x0_2.length cx0_2 (x0_2.flatMap e64)) :
    CV P 20 [.agg #[.int .i64 x0_0, .int .i64 x0_1, .slice ax0_2 x0_2.length cx0_2]] w fun v w' => ∃ (J : Im), Im.le I J ∧ Sat J (F) w' ∧ v = .bool r := by
  unfold f20_m at hm
  refine cv_of (n := 31) Go.Proofs.Try.func20 rfl rfl (Nat.le_of_ble_eq_true rfl) ?_
  refine cw_seq ?_
  refine cw_region ?_
  refine ow_box (v := .agg #[.int .i64 x0_0, .int .i64 x0_1, .slice ax0_2 x0_2.length cx0_2]) (cs := [.int .i64 x0_0, .int .i64 x0_1, .slice ax0_2 x0_2.length cx0_2]) hs rfl rfl ?_
  clear hs; intro b1 w hs
  refine ow_v (x_assign (v := .bool false) rfl) rfl ?_
  refine ow_nil ?_
  refine seqK_n ?_
  refine cw_seq ?_
  refine cw_region ?_
  refine ow_field (b := b1) (o := 0) fl28_0 rfl ?_
  refine ow_load (k := 0) (vs := [.int .i64 x0_0]) (v := .int .i64 x0_0) hs rfl rfl ty3 rfl rfl rfl ?_
  refine ow_field (b := b1) (o := 0) fl28_1 rfl ?_
  refine ow_load (k := 0) (vs := [.int .i64 x0_1]) (v := .int .i64 x0_1) hs rfl rfl ty3 rfl rfl rfl ?_
  refine ow_buildSlice (vp := [(0, .int .i64 x0_0), (1, .int .i64 x0_1)]) (cs := [.int .i64 x0_0, .int .i64 x0_1]) hs sl24 ty3 rfl ⟨rfl, rfl, rfl, rfl, trivial⟩ (by decide) rfl (by decide) ?_
  clear hs; intro a5 J3 w hle4 hs hR6
  replace hx0_2 := hx0_2.mono hle4
  replace hR6 : Rs J3 1 a5 [x0_0, x0_1].length 2 ([x0_0, x0_1].flatMap e64) := hR6
  obtain ⟨r7, hr8, hm2⟩ := bind_some hm
  replace hm := hm2; clear hm2
  refine ow_call (fi := []) (vs := [.int .i64 1, .int .i64 8, .slice a5 ([x0_0, x0_1].length) 2]) (ca := []) rfl ⟨rfl, rfl, rfl, trivial⟩ en9 (f9_ok _ _ _ hr8 hs hR6) ?_
  clear hs; rintro _ w ⟨J9, hle10, hs, rfl⟩
  replace hx0_2 := hx0_2.mono hle10
  replace hR6 := hR6.mono hle10
  refine ow_v (x_move (v := .bool r7) rfl) rfl ?_
  obtain ⟨b11, hmb11, hm2⟩ := bind_some hm
  replace hm := hm2; clear hm2
  refine ow_joinN 10 (fun f ds w => ∃ (I12 : Im), ds = [] ∧ Im.le J9 I12 ∧ Sat I12 (blk b1 28 [.int .i64 x0_0, .int .i64 x0_1, .slice ax0_2 x0_2.length cx0_2] :: F) w ∧ f 19 = .bool b11 ∧ f 1 = .pointer (some ⟨b1, 0, none⟩) ∧ f 2 = .bool false) ?_ ?_
  · by_cases hc14 : r7 = true
    · rw [if_pos hc14] at hmb11
      refine ow_go (yl_of rfl rfl hc14) ?_
      refine ow_field (b := b1) (o := 0) fl28_2 rfl ?_
      refine ow_go (yl_of rfl rfl hc14) ?_
      refine ow_load (k := 0) (vs := [.slice ax0_2 x0_2.length cx0_2]) (v := .slice ax0_2 x0_2.length cx0_2) hs rfl rfl ty24 rfl rfl rfl ?_
      refine ow_go (yl_of rfl rfl hc14) ?_
      refine ow_v (x_len sl24 rfl) rfl ?_
      refine ow_go (yl_of rfl rfl hc14) ?_
      refine ow_field (b := b1) (o := 0) fl28_0 rfl ?_
      refine ow_go (yl_of rfl rfl hc14) ?_
      refine ow_load (k := 0) (vs := [.int .i64 x0_0]) (v := .int .i64 x0_0) hs rfl rfl ty3 rfl rfl rfl ?_
      refine ow_go (yl_of rfl rfl hc14) ?_
      refine ow_field (b := b1) (o := 0) fl28_1 rfl ?_
      refine ow_go (yl_of rfl rfl hc14) ?_
      refine ow_load (k := 0) (vs := [.int .i64 x0_1]) (v := .int .i64 x0_1) hs rfl rfl ty3 rfl rfl rfl ?_
      refine ow_go (yl_of rfl rfl hc14) ?_
      refine ow_v (x_mul (k := .i64) (a := x0_0) (b := x0_1) rfl rfl) rfl ?_
      refine ow_go (yl_of rfl rfl hc14) ?_
      refine ow_v (x_eql (k := .i64) (a := (x0_2.length : Int)) (b := (w64 (x0_0 * x0_1))) rfl rfl) rfl ?_
      refine ow_v (x_pick_t (v := .bool (decide ((x0_2.length : Int) = (w64 (x0_0 * x0_1))))) ((rfl : ev _ _ _ = _).trans (congrArg Value.bool hc14)) rfl) rfl ?_
      refine ow_nil ?_
      obtain rfl := Option.some.inj hmb11
      exact ⟨J9, rfl, Im.le.refl _, hs, rfl, rfl, rfl⟩
    · rw [if_neg hc14] at hmb11
      refine ow_no (b := false) (yl_of rfl rfl (Bool.eq_false_iff.2 hc14)) rfl ?_
      refine ow_no (b := false) (yl_of rfl rfl (Bool.eq_false_iff.2 hc14)) rfl ?_
      refine ow_no (b := false) (yl_of rfl rfl (Bool.eq_false_iff.2 hc14)) rfl ?_
      refine ow_no (b := false) (yl_of rfl rfl (Bool.eq_false_iff.2 hc14)) rfl ?_
      refine ow_no (b := false) (yl_of rfl rfl (Bool.eq_false_iff.2 hc14)) rfl ?_
      refine ow_no (b := false) (yl_of rfl rfl (Bool.eq_false_iff.2 hc14)) rfl ?_
      refine ow_no (b := false) (yl_of rfl rfl (Bool.eq_false_iff.2 hc14)) rfl ?_
      refine ow_no (b := false) (yl_of rfl rfl (Bool.eq_false_iff.2 hc14)) rfl ?_
      refine ow_no (b := false) (yl_of rfl rfl (Bool.eq_false_iff.2 hc14)) rfl ?_
      refine ow_v (x_pick_f (v := .bool false) ((rfl : ev _ _ _ = _).trans (congrArg Value.bool (Bool.eq_false_iff.2 hc14))) rfl) rfl ?_
      refine ow_nil ?_
      obtain rfl := Option.some.inj hmb11
      exact ⟨J9, rfl, Im.le.refl _, hs, rfl, rfl, rfl⟩
  · clear hmb11 hs
    rintro f ds w ⟨I12, rfl, hle13, hs, htbb11, ht1_b11, ht2_b11⟩
    replace hx0_2 := hx0_2.mono hle13
    replace hR6 := hR6.mono hle13
    refine ow_v (x_move (v := .bool b11) htbb11) rfl ?_
    obtain ⟨b15, hmb15, hm2⟩ := bind_some hm
    replace hm := hm2; clear hm2
    refine ow_joinN 4 (fun f ds w => ∃ (I16 : Im), ds = [] ∧ Im.le I12 I16 ∧ Sat I16 (blk b1 28 [.int .i64 x0_0, .int .i64 x0_1, .slice ax0_2 x0_2.length cx0_2] :: F) w ∧ f 24 = .bool b15 ∧ f 1 = .pointer (some ⟨b1, 0, none⟩) ∧ f 2 = .bool false) ?_ ?_
    · by_cases hc18 : b11 = true
      · rw [if_pos hc18] at hmb15
        refine ow_go (yl_of rfl rfl hc18) ?_
        refine ow_field (b := b1) (o := 0) fl28_2 ht1_b11 ?_
        refine ow_go (yl_of rfl rfl hc18) ?_
        refine ow_load (k := 0) (vs := [.slice ax0_2 x0_2.length cx0_2]) (v := .slice ax0_2 x0_2.length cx0_2) hs rfl rfl ty24 rfl rfl rfl ?_
        refine ow_go (yl_of rfl rfl hc18) ?_
        obtain ⟨r19, hr20, hmb152⟩ := bind_some hmb15
        replace hmb15 := hmb152; clear hmb152
        refine ow_call (fi := []) (vs := [.int .i64 (-1), .int .i64 255, .slice ax0_2 x0_2.length cx0_2]) (ca := []) rfl ⟨rfl, rfl, rfl, trivial⟩ en9 (f9_ok _ _ _ hr20 hs hx0_2) ?_
        clear hs; rintro _ w ⟨J21, hle22, hs, rfl⟩
        replace hx0_2 := hx0_2.mono hle22
        replace hR6 := hR6.mono hle22
        refine ow_v (x_pick_t (v := .bool r19) ((rfl : ev _ _ _ = _).trans (congrArg Value.bool hc18)) rfl) rfl ?_
        refine ow_nil ?_
        obtain rfl := Option.some.inj hmb15
        exact ⟨J21, rfl, hle22, hs, rfl, ht1_b11, ht2_b11⟩
      · rw [if_neg hc18] at hmb15
        refine ow_no (b := false) (yl_of rfl rfl (Bool.eq_false_iff.2 hc18)) rfl ?_
        refine ow_no (b := false) (yl_of rfl rfl (Bool.eq_false_iff.2 hc18)) rfl ?_
        refine ow_no (b := false) (yl_of rfl rfl (Bool.eq_false_iff.2 hc18)) rfl ?_
        refine ow_v (x_pick_f (v := .bool false) ((rfl : ev _ _ _ = _).trans (congrArg Value.bool (Bool.eq_false_iff.2 hc18))) rfl) rfl ?_
        refine ow_nil ?_
        obtain rfl := Option.some.inj hmb15
        exact ⟨I12, rfl, Im.le.refl _, hs, rfl, ht1_b11, ht2_b11⟩
    · clear hmb15 hs
      rintro f ds w ⟨I16, rfl, hle17, hs, htbb15, ht1_b15, ht2_b15⟩
      replace hx0_2 := hx0_2.mono hle17
      replace hR6 := hR6.mono hle17
      refine ow_v (x_move (v := .bool b15) htbb15) rfl ?_
      obtain ⟨b23, hmb23, hm2⟩ := bind_some hm
      replace hm := hm2; clear hm2
      refine ow_joinN 5 (fun f ds w => ∃ (I24 : Im), ds = [] ∧ Im.le I16 I24 ∧ Sat I24 (blk b1 28 [.int .i64 x0_0, .int .i64 x0_1, .slice ax0_2 x0_2.length cx0_2] :: F) w ∧ f 30 = .bool b23 ∧ f 2 = .bool false) ?_ ?_
      · by_cases hc26 : b15 = true
        · rw [if_pos hc26] at hmb23
          refine ow_go (yl_of rfl rfl hc26) ?_
          refine ow_field (b := b1) (o := 0) fl28_2 ht1_b15 ?_
          refine ow_go (yl_of rfl rfl hc26) ?_
          refine ow_load (k := 0) (vs := [.slice ax0_2 x0_2.length cx0_2]) (v := .slice ax0_2 x0_2.length cx0_2) hs rfl rfl ty24 rfl rfl rfl ?_
          refine ow_go (yl_of rfl rfl hc26) ?_
          obtain ⟨r27, hr28, hmb232⟩ := bind_some hmb23
          replace hmb23 := hmb232; clear hmb232
          refine ow_call (fi := []) (vs := [.slice ax0_2 x0_2.length cx0_2]) (ca := []) rfl ⟨rfl, trivial⟩ en30 (f30_ok _ hr28 hs hx0_2) ?_
          clear hs; rintro _ w ⟨J29, hle30, hs, rfl⟩
          replace hx0_2 := hx0_2.mono hle30
          replace hR6 := hR6.mono hle30
          refine ow_go (yl_of rfl rfl hc26) ?_
          refine ow_v (x_geq (k := .i64) (a := r27) (b := 0) rfl rfl) rfl ?_
          refine ow_v (x_pick_t (v := .bool (decide (0 ≤ r27))) ((rfl : ev _ _ _ = _).trans (congrArg Value.bool hc26)) rfl) rfl ?_
          refine ow_nil ?_
          obtain rfl := Option.some.inj hmb23
          exact ⟨J29, rfl, hle30, hs, rfl, ht2_b15⟩
        · rw [if_neg hc26] at hmb23
          refine ow_no (b := false) (yl_of rfl rfl (Bool.eq_false_iff.2 hc26)) rfl ?_
          refine ow_no (b := false) (yl_of rfl rfl (Bool.eq_false_iff.2 hc26)) rfl ?_
          refine ow_no (b := false) (yl_of rfl rfl (Bool.eq_false_iff.2 hc26)) rfl ?_
          refine ow_no (b := false) (yl_of rfl rfl (Bool.eq_false_iff.2 hc26)) rfl ?_
          refine ow_v (x_pick_f (v := .bool false) ((rfl : ev _ _ _ = _).trans (congrArg Value.bool (Bool.eq_false_iff.2 hc26))) rfl) rfl ?_
          refine ow_nil ?_
          obtain rfl := Option.some.inj hmb23
          exact ⟨I16, rfl, Im.le.refl _, hs, rfl, ht2_b15⟩
      · clear hmb23 hs
        rintro f ds w ⟨I24, rfl, hle25, hs, htbb23, ht2_b23⟩
        replace hx0_2 := hx0_2.mono hle25
        replace hR6 := hR6.mono hle25
        refine ow_v (x_assign (v := .bool b23) htbb23) rfl ?_
        refine ow_nil ?_
        refine seqK_n ?_
        refine cw_ret ?_
        refine ret_ok (rs := [.tmp 2]) (vs := [.bool b23]) (.inr rfl) rfl ⟨rfl, trivial⟩ ?_
        obtain rfl := Option.some.inj hm
        replace hs := hs.erase 0
        exact ⟨I24, ((((hle4.trans hle10).trans hle13).trans hle17).trans hle25), hs, rfl⟩

-- f22 sightbench/find.offset
def f22_l0 (x1 : Int) : Nat → Int → Int → Int → Option (Int × Int)
  | 0, _, _, _ => none
  | k + 1, v0_t_24, v0_b_r5_0, v0_b_r5_1 => (if v0_t_24 < (w64 (Int.tdiv x1 3)) then (f22_l0 x1 k (w64 (v0_t_24 + 1)) (w64 (0 - v0_b_r5_1)) v0_b_r5_0) else some (v0_b_r5_0, v0_b_r5_1))
def f22_m (x0_0 : Int) (x0_1 : Int) (x0_2 : List Int) (x1 : Int) (x2 : Int) (x3 : Int) (x4 : Int) : Option (Int × Int) :=
  (if 0 ≤ (Int.tmod x1 3) ∧ (Int.tmod x1 3) < (([(5, 0), (4, 3), (3, 4)] : List (Int × Int)).length : Int) then ((f22_l0 x1 FUEL 0 ((at' ([(5, 0), (4, 3), (3, 4)] : List (Int × Int)) (Int.tmod x1 3)).1) ((at' ([(5, 0), (4, 3), (3, 4)] : List (Int × Int)) (Int.tmod x1 3)).2)).bind fun (o9 : Int × Int) => ((f31_m (w64 ((w64 (x2 * (w64 ((w64 (o9.1 * (w64 ((w64 ((w64 (2 * x3)) - x0_0)) + 1)))) - (w64 (o9.2 * (w64 ((w64 ((w64 (2 * x4)) - x0_1)) + 1)))))))) + 10)) 20).bind fun r20 => ((f31_m (w64 ((w64 (x2 * (w64 ((w64 (o9.2 * (w64 ((w64 ((w64 (2 * x3)) - x0_0)) + 1)))) + (w64 (o9.1 * (w64 ((w64 ((w64 (2 * x4)) - x0_1)) + 1)))))))) + 10)) 20).bind fun r24 => some (r20, r24)))) else none)
theorem f22_ok (x0_0 : Int) (x0_1 : Int) (x0_2 : List Int) (x1 : Int) (x2 : Int) (x3 : Int) (x4 : Int) {r : Int × Int} (hm : f22_m x0_0 x0_1 x0_2 x1 x2 x3 x4 = some r) {ax0_2 : Option Addr} {cx0_2 : Nat} {I : Im} {F : List HP} {w : World} (hs : Sat I (F) w) (hx0_2 : Rs I 1 ax0_2 x0_2.length cx0_2 (x0_2.flatMap e64)) :
    CV P 22 [.agg #[.int .i64 x0_0, .int .i64 x0_1, .slice ax0_2 x0_2.length cx0_2], .int .i64 x1, .int .i64 x2, .int .i64 x3, .int .i64 x4] w fun v w' => ∃ (J : Im), Im.le I J ∧ Sat J (F) w' ∧ v = .tuple #[.int .i64 r.1, .int .i64 r.2] := by
  unfold f22_m at hm
  refine cv_of (n := 71) Go.Proofs.Try.func22 rfl rfl (Nat.le_of_ble_eq_true rfl) ?_
  refine cw_seq ?_
  refine cw_region ?_
  refine ow_box (v := .agg #[.int .i64 x0_0, .int .i64 x0_1, .slice ax0_2 x0_2.length cx0_2]) (cs := [.int .i64 x0_0, .int .i64 x0_1, .slice ax0_2 x0_2.length cx0_2]) hs rfl rfl ?_
  clear hs; intro b1 w hs
  refine ow_v (x_assign (v := .int .i64 0) rfl) rfl ?_
  refine ow_v (x_assign (v := .int .i64 0) rfl) rfl ?_
  refine ow_nil ?_
  refine seqK_n ?_
  refine cw_seq ?_
  refine cw_region ?_
  refine ow_buildA (vp := [(0, .int .i64 5), (1, .int .i64 0)]) (cs := [.int .i64 5, .int .i64 0]) ar76 ty3 ty76 ⟨rfl, rfl, rfl, rfl, trivial⟩ rfl ?_
  refine ow_buildA (vp := [(0, .int .i64 4), (1, .int .i64 3)]) (cs := [.int .i64 4, .int .i64 3]) ar76 ty3 ty76 ⟨rfl, rfl, rfl, rfl, trivial⟩ rfl ?_
  refine ow_buildA (vp := [(0, .int .i64 3), (1, .int .i64 4)]) (cs := [.int .i64 3, .int .i64 4]) ar76 ty3 ty76 ⟨rfl, rfl, rfl, rfl, trivial⟩ rfl ?_
  refine ow_buildA (vp := [(0, .agg #[.int .i64 5, .int .i64 0]), (1, .agg #[.int .i64 4, .int .i64 3]), (2, .agg #[.int .i64 3, .int .i64 4])]) (cs := [.int .i64 5, .int .i64 0, .int .i64 4, .int .i64 3, .int .i64 3, .int .i64 4]) ar77 ty76 ty77 ⟨rfl, rfl, rfl, rfl, rfl, rfl, trivial⟩ rfl ?_
  refine ow_v (x_move (v := .int .i64 x1) rfl) rfl ?_
  refine ow_v (x_rem (k := .i64) (a := x1) (b := 3) rfl rfl (by decide)) rfl ?_
  have hg3 := (ite_some hm).1
  replace hm := (ite_some hm).2
  refine ow_indexV (enc := enc76) (X := ([(5, 0), (4, 3), (3, 4)] : List (Int × Int))) (i := (Int.tmod x1 3)) (vs := [.int .i64 ((at' ([(5, 0), (4, 3), (3, 4)] : List (Int × Int)) (Int.tmod x1 3)).1), .int .i64 ((at' ([(5, 0), (4, 3), (3, 4)] : List (Int × Int)) (Int.tmod x1 3)).2)]) (v := .agg #[.int .i64 ((at' ([(5, 0), (4, 3), (3, 4)] : List (Int × Int)) (Int.tmod x1 3)).1), .int .i64 ((at' ([(5, 0), (4, 3), (3, 4)] : List (Int × Int)) (Int.tmod x1 3)).2)]) ar77 ty76 rfl rfl rfl hg3.1 hg3.2 (fun _ => rfl) rfl rfl ?_
  refine ow_alloc hs ty76 rfl ?_
  clear hs; intro b4 w hs
  refine ow_store (k := 0) (vs := [.int .i64 ((at' ([(5, 0), (4, 3), (3, 4)] : List (Int × Int)) (Int.tmod x1 3)).1), .int .i64 ((at' ([(5, 0), (4, 3), (3, 4)] : List (Int × Int)) (Int.tmod x1 3)).2)]) (cs' := [.int .i64 ((at' ([(5, 0), (4, 3), (3, 4)] : List (Int × Int)) (Int.tmod x1 3)).1), .int .i64 ((at' ([(5, 0), (4, 3), (3, 4)] : List (Int × Int)) (Int.tmod x1 3)).2)]) hs rfl rfl rfl ty76 rfl rfl (Nat.le_of_ble_eq_true rfl) rfl rfl ?_
  clear hs; intro w hs
  refine ow_nil ?_
  refine seqK_n ?_
  obtain ⟨o9, hm2, hq10⟩ := bind_some hm
  replace hm := hm2; clear hm2
  refine cw_join (fun f ds w => ∃ (I11 : Im), ds = [] ∧ Im.le I I11 ∧ Sat I11 (blk b4 76 [.int .i64 o9.1, .int .i64 o9.2] :: blk b1 28 [.int .i64 x0_0, .int .i64 x0_1, .slice ax0_2 x0_2.length cx0_2] :: F) w ∧ f 2 = .int .i64 x2 ∧ f 3 = .int .i64 x3 ∧ f 4 = .int .i64 x4 ∧ f 5 = .pointer (some ⟨b1, 0, none⟩) ∧ f 10 = .int .i64 0 ∧ f 11 = .int .i64 0 ∧ f 12 = .pointer (some ⟨b4, 0, none⟩)) ?_ ?_
  · skip
    refine cw_seq ?_
    refine cw_region ?_
    refine ow_v (x_move (v := .int .i64 x1) rfl) rfl ?_
    refine ow_v (x_quo (k := .i64) (a := x1) (b := 3) rfl rfl (by decide)) rfl ?_
    refine ow_v (x_move (v := .int .i64 0) rfl) rfl ?_
    refine ow_nil ?_
    refine seqK_n ?_
    refine cw_block ?_
    refine cw_loop (S := fun k f ds w => ∃ (v0_t_24 : Int) (v0_b_r5_0 : Int) (v0_b_r5_1 : Int), ∃ (I14 : Im), ds = [] ∧ Im.le I I14 ∧ f22_l0 x1 k v0_t_24 v0_b_r5_0 v0_b_r5_1 = some o9 ∧ Sat I14 (blk b4 76 [.int .i64 v0_b_r5_0, .int .i64 v0_b_r5_1] :: blk b1 28 [.int .i64 x0_0, .int .i64 x0_1, .slice ax0_2 x0_2.length cx0_2] :: F) w ∧ f 2 = .int .i64 x2 ∧ f 3 = .int .i64 x3 ∧ f 4 = .int .i64 x4 ∧ f 5 = .pointer (some ⟨b1, 0, none⟩) ∧ f 10 = .int .i64 0 ∧ f 11 = .int .i64 0 ∧ f 12 = .pointer (some ⟨b4, 0, none⟩) ∧ f 23 = .int .i64 (w64 (Int.tdiv x1 3)) ∧ f 24 = .int .i64 v0_t_24) ?_ (k := FUEL) ⟨0, (at' ([(5, 0), (4, 3), (3, 4)] : List (Int × Int)) (Int.tmod x1 3)).1, (at' ([(5, 0), (4, 3), (3, 4)] : List (Int × Int)) (Int.tmod x1 3)).2, I, rfl, Im.le.refl _, hm, hs, rfl, rfl, rfl, rfl, rfl, rfl, rfl, rfl, rfl⟩
    clear hm hs
    rintro k f ds w ⟨v0_t_24, v0_b_r5_0, v0_b_r5_1, I14, rfl, hle15, hm, hs, ht2_L0, ht3_L0, ht4_L0, ht5_L0, ht10_L0, ht11_L0, ht12_L0, ht23_L0, ht24_L0⟩
    replace hx0_2 := hx0_2.mono hle15
    rcases k with _ | k
    · unfold f22_l0 at hm; cases hm
    unfold f22_l0 at hm
    refine cw_seq ?_
    refine cw_region ?_
    refine ow_v (x_lss (k := .i64) (a := v0_t_24) (b := (w64 (Int.tdiv x1 3))) ht24_L0 ht23_L0) rfl ?_
    refine ow_nil ?_
    refine seqK_n ?_
    refine cw_seq ?_
    by_cases hc16 : v0_t_24 < (w64 (Int.tdiv x1 3))
    · rw [if_pos hc16] at hm
      refine cw_if_t rfl (decide_eq_true hc16) ?_
      refine cw_skip ?_
      refine seqK_n ?_
      refine cw_seq ?_
      refine cw_block ?_
      refine cw_region ?_
      refine ow_indexA (b := b4) (o := 0) (i := 1) ar76 ty3 ht12_L0 rfl (by decide) (by decide) ?_
      refine ow_load (k := 0) (vs := [.int .i64 v0_b_r5_1]) (v := .int .i64 v0_b_r5_1) hs rfl rfl ty3 rfl rfl rfl ?_
      refine ow_v (x_neg (k := .i64) (a := v0_b_r5_1) rfl) rfl ?_
      refine ow_indexA (b := b4) (o := 0) (i := 0) ar76 ty3 ht12_L0 rfl (by decide) (by decide) ?_
      refine ow_load (k := 0) (vs := [.int .i64 v0_b_r5_0]) (v := .int .i64 v0_b_r5_0) hs rfl rfl ty3 rfl rfl rfl ?_
      refine ow_buildA (vp := [(0, .int .i64 (w64 (0 - v0_b_r5_1))), (1, .int .i64 v0_b_r5_0)]) (cs := [.int .i64 (w64 (0 - v0_b_r5_1)), .int .i64 v0_b_r5_0]) ar76 ty3 ty76 ⟨rfl, rfl, rfl, rfl, trivial⟩ rfl ?_
      refine ow_store (k := 0) (vs := [.int .i64 (w64 (0 - v0_b_r5_1)), .int .i64 v0_b_r5_0]) (cs' := [.int .i64 (w64 (0 - v0_b_r5_1)), .int .i64 v0_b_r5_0]) hs rfl ht12_L0 rfl ty76 rfl rfl (Nat.le_of_ble_eq_true rfl) rfl rfl ?_
      clear hs; intro w hs
      refine ow_nil ?_
      refine blockK_n ?_
      refine seqK_n ?_
      refine cw_region ?_
      refine ow_v (x_add (k := .i64) (a := v0_t_24) (b := 1) ht24_L0 rfl) rfl ?_
      refine ow_v (x_move (v := .int .i64 (w64 (v0_t_24 + 1))) rfl) rfl ?_
      refine ow_nil ?_
      exact loopK_n ⟨k, Nat.lt_succ_self k, w64 (v0_t_24 + 1), w64 (0 - v0_b_r5_1), v0_b_r5_0, I14, rfl, hle15, hm, hs, ht2_L0, ht3_L0, ht4_L0, ht5_L0, ht10_L0, ht11_L0, ht12_L0, ht23_L0, rfl⟩
    · rw [if_neg hc16] at hm
      refine cw_if_f rfl (decide_eq_false hc16) ?_
      refine cw_exit ?_
      refine seqK_x ?_
      refine loopK_x ?_
      refine blockK_hit ?_
      obtain rfl := Option.some.inj hm
      refine joinK_n ⟨I14, rfl, hle15, hs, ht2_L0, ht3_L0, ht4_L0, ht5_L0, ht10_L0, ht11_L0, ht12_L0⟩
  · clear hm hs
    rintro f ds w ⟨I11, rfl, hle17, hs, ht2_o9, ht3_o9, ht4_o9, ht5_o9, ht10_o9, ht11_o9, ht12_o9⟩
    replace hm := hq10
    replace hx0_2 := hx0_2.mono hle17
    refine cw_seq ?_
    refine cw_drawF mixed rfl (fun f0 L f w => ∃ (Iq : Im), Im.le I11 Iq ∧ f = frL [(33, 0, .int .i64 x3), (34, 1, .int .i64 (w64 (2 * x3))), (35, 2, .pointer (some ⟨b1, 0, none⟩)), (36, 3, .int .i64 x0_0), (37, 4, .int .i64 (w64 ((w64 (2 * x3)) - x0_0))), (38, 5, .int .i64 (w64 ((w64 ((w64 (2 * x3)) - x0_0)) + 1))), (39, 6, .int .i64 x4), (40, 7, .int .i64 (w64 (2 * x4))), (41, 8, .pointer (some ⟨b1, 1, none⟩)), (42, 9, .int .i64 x0_1), (43, 10, .int .i64 (w64 ((w64 (2 * x4)) - x0_1))), (44, 11, .int .i64 (w64 ((w64 ((w64 (2 * x4)) - x0_1)) + 1))), (13, 12, .int .i64 (w64 ((w64 ((w64 (2 * x3)) - x0_0)) + 1))), (14, 13, .int .i64 (w64 ((w64 ((w64 (2 * x4)) - x0_1)) + 1)))] L f0 ∧ Sat Iq (blk b4 76 [.int .i64 o9.1, .int .i64 o9.2] :: blk b1 28 [.int .i64 x0_0, .int .i64 x0_1, .slice ax0_2 x0_2.length cx0_2] :: F) w) ⟨I11, Im.le.refl _, (frL_ff _).symm, hs.drew⟩ ⟨?_, ?_, ?_, ?_, ?_, ?_, ?_, ?_, ?_, ?_, ?_, ?_, ?_, ?_, trivial⟩ ?_
    all_goals clear hs
    · rintro L f w _ hL ⟨Iq, hleq, rfl, hs⟩
      replace hx0_2 := hx0_2.mono hleq
      refine ow_v (x_move (v := .int .i64 x3) ht3_o9) rfl ?_
      exact ow_nil ⟨rfl, rfl, Iq, hleq, frL_set rfl rfl, hs⟩
    · rintro L f w ⟨hL0, _⟩ hL ⟨Iq, hleq, rfl, hs⟩
      replace hx0_2 := hx0_2.mono hleq
      refine ow_v (x_mul (k := .i64) (a := 2) (b := x3) rfl (frL_get rfl hL0)) rfl ?_
      exact ow_nil ⟨rfl, rfl, Iq, hleq, frL_set rfl rfl, hs⟩
    · rintro L f w _ hL ⟨Iq, hleq, rfl, hs⟩
      replace hx0_2 := hx0_2.mono hleq
      refine ow_field (b := b1) (o := 0) fl28_0 ht5_o9 ?_
      exact ow_nil ⟨rfl, rfl, Iq, hleq, frL_set rfl rfl, hs⟩
    · rintro L f w ⟨hL2, _⟩ hL ⟨Iq, hleq, rfl, hs⟩
      replace hx0_2 := hx0_2.mono hleq
      refine ow_load (k := 1) (vs := [.int .i64 x0_0]) (v := .int .i64 x0_0) hs rfl (frL_get rfl hL2) ty3 rfl rfl rfl ?_
      exact ow_nil ⟨rfl, rfl, Iq, hleq, frL_set rfl rfl, hs⟩
    · rintro L f w ⟨hL1, hL3, _⟩ hL ⟨Iq, hleq, rfl, hs⟩
      replace hx0_2 := hx0_2.mono hleq
      refine ow_v (x_sub (k := .i64) (a := (w64 (2 * x3))) (b := x0_0) (frL_get rfl hL1) (frL_get rfl hL3)) rfl ?_
      exact ow_nil ⟨rfl, rfl, Iq, hleq, frL_set rfl rfl, hs⟩
    · rintro L f w ⟨hL4, _⟩ hL ⟨Iq, hleq, rfl, hs⟩
      replace hx0_2 := hx0_2.mono hleq
      refine ow_v (x_add (k := .i64) (a := (w64 ((w64 (2 * x3)) - x0_0))) (b := 1) (frL_get rfl hL4) rfl) rfl ?_
      exact ow_nil ⟨rfl, rfl, Iq, hleq, frL_set rfl rfl, hs⟩
    · rintro L f w _ hL ⟨Iq, hleq, rfl, hs⟩
      replace hx0_2 := hx0_2.mono hleq
      refine ow_v (x_move (v := .int .i64 x4) ht4_o9) rfl ?_
      exact ow_nil ⟨rfl, rfl, Iq, hleq, frL_set rfl rfl, hs⟩
    · rintro L f w ⟨hL6, _⟩ hL ⟨Iq, hleq, rfl, hs⟩
      replace hx0_2 := hx0_2.mono hleq
      refine ow_v (x_mul (k := .i64) (a := 2) (b := x4) rfl (frL_get rfl hL6)) rfl ?_
      exact ow_nil ⟨rfl, rfl, Iq, hleq, frL_set rfl rfl, hs⟩
    · rintro L f w _ hL ⟨Iq, hleq, rfl, hs⟩
      replace hx0_2 := hx0_2.mono hleq
      refine ow_field (b := b1) (o := 0) fl28_1 ht5_o9 ?_
      exact ow_nil ⟨rfl, rfl, Iq, hleq, frL_set rfl rfl, hs⟩
    · rintro L f w ⟨hL8, _⟩ hL ⟨Iq, hleq, rfl, hs⟩
      replace hx0_2 := hx0_2.mono hleq
      refine ow_load (k := 1) (vs := [.int .i64 x0_1]) (v := .int .i64 x0_1) hs rfl (frL_get rfl hL8) ty3 rfl rfl rfl ?_
      exact ow_nil ⟨rfl, rfl, Iq, hleq, frL_set rfl rfl, hs⟩
    · rintro L f w ⟨hL7, hL9, _⟩ hL ⟨Iq, hleq, rfl, hs⟩
      replace hx0_2 := hx0_2.mono hleq
      refine ow_v (x_sub (k := .i64) (a := (w64 (2 * x4))) (b := x0_1) (frL_get rfl hL7) (frL_get rfl hL9)) rfl ?_
      exact ow_nil ⟨rfl, rfl, Iq, hleq, frL_set rfl rfl, hs⟩
    · rintro L f w ⟨hL10, _⟩ hL ⟨Iq, hleq, rfl, hs⟩
      replace hx0_2 := hx0_2.mono hleq
      refine ow_v (x_add (k := .i64) (a := (w64 ((w64 (2 * x4)) - x0_1))) (b := 1) (frL_get rfl hL10) rfl) rfl ?_
      exact ow_nil ⟨rfl, rfl, Iq, hleq, frL_set rfl rfl, hs⟩
    · rintro L f w ⟨hL5, hL0, hL1, hL2, hL3, hL4, _, _⟩ hL ⟨Iq, hleq, rfl, hs⟩
      replace hx0_2 := hx0_2.mono hleq
      refine ow_v (x_assign (v := .int .i64 (w64 ((w64 ((w64 (2 * x3)) - x0_0)) + 1))) (frL_get rfl hL5)) rfl ?_
      exact ow_nil ⟨rfl, rfl, Iq, hleq, frL_set rfl rfl, hs⟩
    · rintro L f w ⟨hL11, hL12, hL0, hL1, hL2, hL3, hL4, hL5, hL6, hL7, hL8, hL9, hL10, _, _, _⟩ hL ⟨Iq, hleq, rfl, hs⟩
      replace hx0_2 := hx0_2.mono hleq
      refine ow_v (x_assign (v := .int .i64 (w64 ((w64 ((w64 (2 * x4)) - x0_1)) + 1))) (frL_get rfl hL11)) rfl ?_
      exact ow_nil ⟨rfl, rfl, Iq, hleq, frL_set rfl rfl, hs⟩
    rintro L f w hall ⟨I19, hle18, rfl, hs⟩
    rw [frL_tt _ rfl hall]
    replace hx0_2 := hx0_2.mono hle18
    refine seqK_n ?_
    refine cw_seq ?_
    obtain ⟨r20, hr21, hm2⟩ := bind_some hm
    replace hm := hm2; clear hm2
    obtain ⟨r24, hr25, hm2⟩ := bind_some hm
    replace hm := hm2; clear hm2
    refine cw_drawF mixed rfl (fun f0 L f w => ∃ (Iq : Im), Im.le I19 Iq ∧ f = frL [(45, 0, .int .i64 x2), (46, 1, .pointer (some ⟨b4, 0, none⟩)), (47, 2, .int .i64 o9.1), (48, 3, .int .i64 (w64 ((w64 ((w64 (2 * x3)) - x0_0)) + 1))), (49, 4, .int .i64 (w64 (o9.1 * (w64 ((w64 ((w64 (2 * x3)) - x0_0)) + 1))))), (50, 5, .pointer (some ⟨b4, 1, none⟩)), (51, 6, .int .i64 o9.2), (52, 7, .int .i64 (w64 ((w64 ((w64 (2 * x4)) - x0_1)) + 1))), (53, 8, .int .i64 (w64 (o9.2 * (w64 ((w64 ((w64 (2 * x4)) - x0_1)) + 1))))), (54, 9, .int .i64 (w64 ((w64 (o9.1 * (w64 ((w64 ((w64 (2 * x3)) - x0_0)) + 1)))) - (w64 (o9.2 * (w64 ((w64 ((w64 (2 * x4)) - x0_1)) + 1))))))), (55, 10, .int .i64 (w64 (x2 * (w64 ((w64 (o9.1 * (w64 ((w64 ((w64 (2 * x3)) - x0_0)) + 1)))) - (w64 (o9.2 * (w64 ((w64 ((w64 (2 * x4)) - x0_1)) + 1))))))))), (56, 11, .int .i64 (w64 ((w64 (x2 * (w64 ((w64 (o9.1 * (w64 ((w64 ((w64 (2 * x3)) - x0_0)) + 1)))) - (w64 (o9.2 * (w64 ((w64 ((w64 (2 * x4)) - x0_1)) + 1)))))))) + 10))), (57, 12, .int .i64 r20), (58, 13, .int .i64 x2), (59, 14, .pointer (some ⟨b4, 1, none⟩)), (60, 15, .int .i64 o9.2), (61, 16, .int .i64 (w64 ((w64 ((w64 (2 * x3)) - x0_0)) + 1))), (62, 17, .int .i64 (w64 (o9.2 * (w64 ((w64 ((w64 (2 * x3)) - x0_0)) + 1))))), (63, 18, .pointer (some ⟨b4, 0, none⟩)), (64, 19, .int .i64 o9.1), (65, 20, .int .i64 (w64 ((w64 ((w64 (2 * x4)) - x0_1)) + 1))), (66, 21, .int .i64 (w64 (o9.1 * (w64 ((w64 ((w64 (2 * x4)) - x0_1)) + 1))))), (67, 22, .int .i64 (w64 ((w64 (o9.2 * (w64 ((w64 ((w64 (2 * x3)) - x0_0)) + 1)))) + (w64 (o9.1 * (w64 ((w64 ((w64 (2 * x4)) - x0_1)) + 1))))))), (68, 23, .int .i64 (w64 (x2 * (w64 ((w64 (o9.2 * (w64 ((w64 ((w64 (2 * x3)) - x0_0)) + 1)))) + (w64 (o9.1 * (w64 ((w64 ((w64 (2 * x4)) - x0_1)) + 1))))))))), (69, 24, .int .i64 (w64 ((w64 (x2 * (w64 ((w64 (o9.2 * (w64 ((w64 ((w64 (2 * x3)) - x0_0)) + 1)))) + (w64 (o9.1 * (w64 ((w64 ((w64 (2 * x4)) - x0_1)) + 1)))))))) + 10))), (70, 25, .int .i64 r24), (10, 26, .int .i64 r20), (11, 27, .int .i64 r24)] L f0 ∧ Sat Iq (blk b4 76 [.int .i64 o9.1, .int .i64 o9.2] :: blk b1 28 [.int .i64 x0_0, .int .i64 x0_1, .slice ax0_2 x0_2.length cx0_2] :: F) w) ⟨I19, Im.le.refl _, (frL_ff _).symm, hs.drew⟩ ⟨?_, ?_, ?_, ?_, ?_, ?_, ?_, ?_, ?_, ?_, ?_, ?_, ?_, ?_, ?_, ?_, ?_, ?_, ?_, ?_, ?_, ?_, ?_, ?_, ?_, ?_, ?_, ?_, trivial⟩ ?_
    all_goals clear hs
    · rintro L f w _ hL ⟨Iq, hleq, rfl, hs⟩
      replace hx0_2 := hx0_2.mono hleq
      refine ow_v (x_move (v := .int .i64 x2) ht2_o9) rfl ?_
      exact ow_nil ⟨rfl, rfl, Iq, hleq, frL_set rfl rfl, hs⟩
    · rintro L f w _ hL ⟨Iq, hleq, rfl, hs⟩
      replace hx0_2 := hx0_2.mono hleq
      refine ow_indexA (b := b4) (o := 0) (i := 0) ar76 ty3 ht12_o9 rfl (by decide) (by decide) ?_
      exact ow_nil ⟨rfl, rfl, Iq, hleq, frL_set rfl rfl, hs⟩
    · rintro L f w ⟨hL1, _⟩ hL ⟨Iq, hleq, rfl, hs⟩
      replace hx0_2 := hx0_2.mono hleq
      refine ow_load (k := 0) (vs := [.int .i64 o9.1]) (v := .int .i64 o9.1) hs rfl (frL_get rfl hL1) ty3 rfl rfl rfl ?_
      exact ow_nil ⟨rfl, rfl, Iq, hleq, frL_set rfl rfl, hs⟩
    · rintro L f w _ hL ⟨Iq, hleq, rfl, hs⟩
      replace hx0_2 := hx0_2.mono hleq
      refine ow_v (x_move (v := .int .i64 (w64 ((w64 ((w64 (2 * x3)) - x0_0)) + 1))) rfl) rfl ?_
      exact ow_nil ⟨rfl, rfl, Iq, hleq, frL_set rfl rfl, hs⟩
    · rintro L f w ⟨hL2, hL3, _⟩ hL ⟨Iq, hleq, rfl, hs⟩
      replace hx0_2 := hx0_2.mono hleq
      refine ow_v (x_mul (k := .i64) (a := o9.1) (b := (w64 ((w64 ((w64 (2 * x3)) - x0_0)) + 1))) (frL_get rfl hL2) (frL_get rfl hL3)) rfl ?_
      exact ow_nil ⟨rfl, rfl, Iq, hleq, frL_set rfl rfl, hs⟩
    · rintro L f w _ hL ⟨Iq, hleq, rfl, hs⟩
      replace hx0_2 := hx0_2.mono hleq
      refine ow_indexA (b := b4) (o := 0) (i := 1) ar76 ty3 ht12_o9 rfl (by decide) (by decide) ?_
      exact ow_nil ⟨rfl, rfl, Iq, hleq, frL_set rfl rfl, hs⟩
    · rintro L f w ⟨hL5, _⟩ hL ⟨Iq, hleq, rfl, hs⟩
      replace hx0_2 := hx0_2.mono hleq
      refine ow_load (k := 0) (vs := [.int .i64 o9.2]) (v := .int .i64 o9.2) hs rfl (frL_get rfl hL5) ty3 rfl rfl rfl ?_
      exact ow_nil ⟨rfl, rfl, Iq, hleq, frL_set rfl rfl, hs⟩
    · rintro L f w _ hL ⟨Iq, hleq, rfl, hs⟩
      replace hx0_2 := hx0_2.mono hleq
      refine ow_v (x_move (v := .int .i64 (w64 ((w64 ((w64 (2 * x4)) - x0_1)) + 1))) rfl) rfl ?_
      exact ow_nil ⟨rfl, rfl, Iq, hleq, frL_set rfl rfl, hs⟩
    · rintro L f w ⟨hL6, hL7, _⟩ hL ⟨Iq, hleq, rfl, hs⟩
      replace hx0_2 := hx0_2.mono hleq
      refine ow_v (x_mul (k := .i64) (a := o9.2) (b := (w64 ((w64 ((w64 (2 * x4)) - x0_1)) + 1))) (frL_get rfl hL6) (frL_get rfl hL7)) rfl ?_
      exact ow_nil ⟨rfl, rfl, Iq, hleq, frL_set rfl rfl, hs⟩
    · rintro L f w ⟨hL4, hL8, _⟩ hL ⟨Iq, hleq, rfl, hs⟩
      replace hx0_2 := hx0_2.mono hleq
      refine ow_v (x_sub (k := .i64) (a := (w64 (o9.1 * (w64 ((w64 ((w64 (2 * x3)) - x0_0)) + 1))))) (b := (w64 (o9.2 * (w64 ((w64 ((w64 (2 * x4)) - x0_1)) + 1))))) (frL_get rfl hL4) (frL_get rfl hL8)) rfl ?_
      exact ow_nil ⟨rfl, rfl, Iq, hleq, frL_set rfl rfl, hs⟩
    · rintro L f w ⟨hL0, hL9, _⟩ hL ⟨Iq, hleq, rfl, hs⟩
      replace hx0_2 := hx0_2.mono hleq
      refine ow_v (x_mul (k := .i64) (a := x2) (b := (w64 ((w64 (o9.1 * (w64 ((w64 ((w64 (2 * x3)) - x0_0)) + 1)))) - (w64 (o9.2 * (w64 ((w64 ((w64 (2 * x4)) - x0_1)) + 1))))))) (frL_get rfl hL0) (frL_get rfl hL9)) rfl ?_
      exact ow_nil ⟨rfl, rfl, Iq, hleq, frL_set rfl rfl, hs⟩
    · rintro L f w ⟨hL10, _⟩ hL ⟨Iq, hleq, rfl, hs⟩
      replace hx0_2 := hx0_2.mono hleq
      refine ow_v (x_add (k := .i64) (a := (w64 (x2 * (w64 ((w64 (o9.1 * (w64 ((w64 ((w64 (2 * x3)) - x0_0)) + 1)))) - (w64 (o9.2 * (w64 ((w64 ((w64 (2 * x4)) - x0_1)) + 1))))))))) (b := 10) (frL_get rfl hL10) rfl) rfl ?_
      exact ow_nil ⟨rfl, rfl, Iq, hleq, frL_set rfl rfl, hs⟩
    · rintro L f w ⟨hL11, _⟩ hL ⟨Iq, hleq, rfl, hs⟩
      replace hx0_2 := hx0_2.mono hleq
      refine ow_call (fi := []) (vs := [.int .i64 (w64 ((w64 (x2 * (w64 ((w64 (o9.1 * (w64 ((w64 ((w64 (2 * x3)) - x0_0)) + 1)))) - (w64 (o9.2 * (w64 ((w64 ((w64 (2 * x4)) - x0_1)) + 1)))))))) + 10)), .int .i64 20]) (ca := []) rfl ⟨(frL_get rfl hL11), rfl, trivial⟩ en31 (f31_ok _ _ hr21 hs) ?_
      clear hs; rintro _ w ⟨J22, hle23, hs, rfl⟩
      replace hx0_2 := hx0_2.mono hle23
      exact ow_nil ⟨rfl, rfl, J22, (hleq.trans hle23), frL_set rfl rfl, hs⟩
    · rintro L f w _ hL ⟨Iq, hleq, rfl, hs⟩
      replace hx0_2 := hx0_2.mono hleq
      refine ow_v (x_move (v := .int .i64 x2) ht2_o9) rfl ?_
      exact ow_nil ⟨rfl, rfl, Iq, hleq, frL_set rfl rfl, hs⟩
    · rintro L f w _ hL ⟨Iq, hleq, rfl, hs⟩
      replace hx0_2 := hx0_2.mono hleq
      refine ow_indexA (b := b4) (o := 0) (i := 1) ar76 ty3 ht12_o9 rfl (by decide) (by decide) ?_
      exact ow_nil ⟨rfl, rfl, Iq, hleq, frL_set rfl rfl, hs⟩
    · rintro L f w ⟨hL14, _⟩ hL ⟨Iq, hleq, rfl, hs⟩
      replace hx0_2 := hx0_2.mono hleq
      refine ow_load (k := 0) (vs := [.int .i64 o9.2]) (v := .int .i64 o9.2) hs rfl (frL_get rfl hL14) ty3 rfl rfl rfl ?_
      exact ow_nil ⟨rfl, rfl, Iq, hleq, frL_set rfl rfl, hs⟩
    · rintro L f w _ hL ⟨Iq, hleq, rfl, hs⟩
      replace hx0_2 := hx0_2.mono hleq
      refine ow_v (x_move (v := .int .i64 (w64 ((w64 ((w64 (2 * x3)) - x0_0)) + 1))) rfl) rfl ?_
      exact ow_nil ⟨rfl, rfl, Iq, hleq, frL_set rfl rfl, hs⟩
    · rintro L f w ⟨hL15, hL16, _⟩ hL ⟨Iq, hleq, rfl, hs⟩
      replace hx0_2 := hx0_2.mono hleq
      refine ow_v (x_mul (k := .i64) (a := o9.2) (b := (w64 ((w64 ((w64 (2 * x3)) - x0_0)) + 1))) (frL_get rfl hL15) (frL_get rfl hL16)) rfl ?_
      exact ow_nil ⟨rfl, rfl, Iq, hleq, frL_set rfl rfl, hs⟩
    · rintro L f w _ hL ⟨Iq, hleq, rfl, hs⟩
      replace hx0_2 := hx0_2.mono hleq
      refine ow_indexA (b := b4) (o := 0) (i := 0) ar76 ty3 ht12_o9 rfl (by decide) (by decide) ?_
      exact ow_nil ⟨rfl, rfl, Iq, hleq, frL_set rfl rfl, hs⟩
    · rintro L f w ⟨hL18, _⟩ hL ⟨Iq, hleq, rfl, hs⟩
      replace hx0_2 := hx0_2.mono hleq
      refine ow_load (k := 0) (vs := [.int .i64 o9.1]) (v := .int .i64 o9.1) hs rfl (frL_get rfl hL18) ty3 rfl rfl rfl ?_
      exact ow_nil ⟨rfl, rfl, Iq, hleq, frL_set rfl rfl, hs⟩
    · rintro L f w _ hL ⟨Iq, hleq, rfl, hs⟩
      replace hx0_2 := hx0_2.mono hleq
      refine ow_v (x_move (v := .int .i64 (w64 ((w64 ((w64 (2 * x4)) - x0_1)) + 1))) rfl) rfl ?_
      exact ow_nil ⟨rfl, rfl, Iq, hleq, frL_set rfl rfl, hs⟩
    · rintro L f w ⟨hL19, hL20, _⟩ hL ⟨Iq, hleq, rfl, hs⟩
      replace hx0_2 := hx0_2.mono hleq
      refine ow_v (x_mul (k := .i64) (a := o9.1) (b := (w64 ((w64 ((w64 (2 * x4)) - x0_1)) + 1))) (frL_get rfl hL19) (frL_get rfl hL20)) rfl ?_
      exact ow_nil ⟨rfl, rfl, Iq, hleq, frL_set rfl rfl, hs⟩
    · rintro L f w ⟨hL17, hL21, _⟩ hL ⟨Iq, hleq, rfl, hs⟩
      replace hx0_2 := hx0_2.mono hleq
      refine ow_v (x_add (k := .i64) (a := (w64 (o9.2 * (w64 ((w64 ((w64 (2 * x3)) - x0_0)) + 1))))) (b := (w64 (o9.1 * (w64 ((w64 ((w64 (2 * x4)) - x0_1)) + 1))))) (frL_get rfl hL17) (frL_get rfl hL21)) rfl ?_
      exact ow_nil ⟨rfl, rfl, Iq, hleq, frL_set rfl rfl, hs⟩
    · rintro L f w ⟨hL13, hL22, _⟩ hL ⟨Iq, hleq, rfl, hs⟩
      replace hx0_2 := hx0_2.mono hleq
      refine ow_v (x_mul (k := .i64) (a := x2) (b := (w64 ((w64 (o9.2 * (w64 ((w64 ((w64 (2 * x3)) - x0_0)) + 1)))) + (w64 (o9.1 * (w64 ((w64 ((w64 (2 * x4)) - x0_1)) + 1))))))) (frL_get rfl hL13) (frL_get rfl hL22)) rfl ?_
      exact ow_nil ⟨rfl, rfl, Iq, hleq, frL_set rfl rfl, hs⟩
    · rintro L f w ⟨hL23, _⟩ hL ⟨Iq, hleq, rfl, hs⟩
      replace hx0_2 := hx0_2.mono hleq
      refine ow_v (x_add (k := .i64) (a := (w64 (x2 * (w64 ((w64 (o9.2 * (w64 ((w64 ((w64 (2 * x3)) - x0_0)) + 1)))) + (w64 (o9.1 * (w64 ((w64 ((w64 (2 * x4)) - x0_1)) + 1))))))))) (b := 10) (frL_get rfl hL23) rfl) rfl ?_
      exact ow_nil ⟨rfl, rfl, Iq, hleq, frL_set rfl rfl, hs⟩
    · rintro L f w ⟨hL24, hL12, _⟩ hL ⟨Iq, hleq, rfl, hs⟩
      replace hx0_2 := hx0_2.mono hleq
      refine ow_call (fi := []) (vs := [.int .i64 (w64 ((w64 (x2 * (w64 ((w64 (o9.2 * (w64 ((w64 ((w64 (2 * x3)) - x0_0)) + 1)))) + (w64 (o9.1 * (w64 ((w64 ((w64 (2 * x4)) - x0_1)) + 1)))))))) + 10)), .int .i64 20]) (ca := []) rfl ⟨(frL_get rfl hL24), rfl, trivial⟩ en31 (f31_ok _ _ hr25 hs) ?_
      clear hs; rintro _ w ⟨J26, hle27, hs, rfl⟩
      replace hx0_2 := hx0_2.mono hle27
      exact ow_nil ⟨rfl, rfl, J26, (hleq.trans hle27), frL_set rfl rfl, hs⟩
    · rintro L f w ⟨hL12, hL25, hL0, hL1, hL2, hL3, hL4, hL5, hL6, hL7, hL8, hL9, hL10, hL11, _, _⟩ hL ⟨Iq, hleq, rfl, hs⟩
      replace hx0_2 := hx0_2.mono hleq
      refine ow_v (x_assign (v := .int .i64 r20) (frL_get rfl hL12)) rfl ?_
      exact ow_nil ⟨rfl, rfl, Iq, hleq, frL_set rfl rfl, hs⟩
    · rintro L f w ⟨hL25, hL26, hL0, hL1, hL2, hL3, hL4, hL5, hL6, hL7, hL8, hL9, hL10, hL11, hL12, hL13, hL14, hL15, hL16, hL17, hL18, hL19, hL20, hL21, hL22, hL23, hL24, _, _, _⟩ hL ⟨Iq, hleq, rfl, hs⟩
      replace hx0_2 := hx0_2.mono hleq
      refine ow_v (x_assign (v := .int .i64 r24) (frL_get rfl hL25)) rfl ?_
      exact ow_nil ⟨rfl, rfl, Iq, hleq, frL_set rfl rfl, hs⟩
    rintro L f w hall ⟨I29, hle28, rfl, hs⟩
    rw [frL_tt _ rfl hall]
    replace hx0_2 := hx0_2.mono hle28
    refine seqK_n ?_
    refine cw_ret ?_
    refine ret_ok (rs := [.tmp 10, .tmp 11]) (vs := [.int .i64 r20, .int .i64 r24]) (.inr rfl) rfl ⟨rfl, rfl, trivial⟩ ?_
    obtain rfl := Option.some.inj hm
    replace hs := hs.erase 0
    replace hs := hs.erase 0
    exact ⟨I29, ((hle17.trans hle18).trans hle28), hs, rfl⟩

-- f13 (sightbench/find.stencil).bound
def f13_l2 (x0 : List (Int × Int × Int)) (x1_0 : Int) (x1_2 : List Int) (x2_2 : Int) (v2_t_16 : Int) (v1_t_11 : Int) : Nat → Int → Int → Option Int
  | 0, _, _ => none
  | k + 1, v0_t_10, v0_t_12 => (if v0_t_12 ≤ (min (w64 (x2_2 + ((at' x0 v2_t_16).1))) (w64 (x1_0 - 1))) then (if 0 ≤ (w64 ((w64 (v1_t_11 * x1_0)) + v0_t_12)) ∧ (w64 ((w64 (v1_t_11 * x1_0)) + v0_t_12)) < (x1_2.length : Int) then (f13_l2 x0 x1_0 x1_2 x2_2 v2_t_16 v1_t_11 k (min v0_t_10 (max (w64 (((at' x0 v2_t_16).2.2) - (at' x1_2 (w64 ((w64 (v1_t_11 * x1_0)) + v0_t_12))))) (w64 (0 - (w64 (((at' x0 v2_t_16).2.2) - (at' x1_2 (w64 ((w64 (v1_t_11 * x1_0)) + v0_t_12))))))))) (w64 (v0_t_12 + 1))) else none) else some v0_t_10)
def f13_l1 (x0 : List (Int × Int × Int)) (x1_0 : Int) (x1_1 : Int) (x1_2 : List Int) (x2_0 : Int) (x2_2 : Int) (x2_3 : Int) (v2_t_16 : Int) : Nat → Int → Int → Option Int
  | 0, _, _ => none
  | k + 1, v1_t_10, v1_t_11 => (if v1_t_11 ≤ (min (w64 (x2_3 + ((at' x0 v2_t_16).2.1))) (w64 (x1_1 - 1))) then ((f13_l2 x0 x1_0 x1_2 x2_2 v2_t_16 v1_t_11 FUEL v1_t_10 (max (w64 (x2_0 + ((at' x0 v2_t_16).1))) 0)).bind fun (o2196 : Int) => (f13_l1 x0 x1_0 x1_1 x1_2 x2_0 x2_2 x2_3 v2_t_16 k o2196 (w64 (v1_t_11 + 1)))) else some v1_t_10)
def f13_l0 (x0 : List (Int × Int × Int)) (x1_0 : Int) (x1_1 : Int) (x1_2 : List Int) (x2_0 : Int) (x2_1 : Int) (x2_2 : Int) (x2_3 : Int) : Nat → Int → Int → Option Int
  | 0, _, _ => none
  | k + 1, v2_t_7, v2_t_16 => (if v2_t_16 < (x0.length : Int) then ((if 0 ≤ v2_t_16 ∧ v2_t_16 < (x0.length : Int) then ((f13_l1 x0 x1_0 x1_1 x1_2 x2_0 x2_2 x2_3 v2_t_16 FUEL 255 (max (w64 (x2_1 + ((at' x0 v2_t_16).2.1))) 0)).bind fun (o2120 : Int) => some (w64 (v2_t_7 + o2120))) else none).bind fun (o2027 : Int) => (f13_l0 x0 x1_0 x1_1 x1_2 x2_0 x2_1 x2_2 x2_3 k o2027 (w64 (v2_t_16 + 1)))) else some v2_t_7)
def f13_m (x0 : List (Int × Int × Int)) (x1_0 : Int) (x1_1 : Int) (x1_2 : List Int) (x2_0 : Int) (x2_1 : Int) (x2_2 : Int) (x2_3 : Int) (x2_4 : Int) (x2_5 : Int) : Option Int :=
  ((f13_l0 x0 x1_0 x1_1 x1_2 x2_0 x2_1 x2_2 x2_3 FUEL 0 0).bind fun (o1106 : Int) => some o1106)
theorem f13_ok (x0 : List (Int × Int × Int)) (x1_0 : Int) (x1_1 : Int) (x1_2 : List Int) (x2_0 : Int) (x2_1 : Int) (x2_2 : Int) (x2_3 : Int) (x2_4 : Int) (x2_5 : Int) {r : Int} (hm : f13_m x0 x1_0 x1_1 x1_2 x2_0 x2_1 x2_2 x2_3 x2_4 x2_5 = some r) {ax0 : Option Addr} {cx0 : Nat} {ax1_2 : Option Addr} {cx1_2 : Nat} {I : Im} {F : List HP} {w : World} (hs : Sat I (F) w) (hx0 : Rs I 3 ax0 x0.length cx0 (x0.flatMap enc66)) (hx1_2 : Rs I 1 ax1_2 x1_2.length cx1_2 (x1_2.flatMap e64)) :
    CV P 13 [.slice ax0 x0.length cx0, .agg #[.int .i64 x1_0, .int .i64 x1_1, .slice ax1_2 x1_2.length cx1_2], .agg #[.int .i64 x2_0, .int .i64 x2_1, .int .i64 x2_2, .int .i64 x2_3, .int .i64 x2_4, .int .i64 x2_5]] w fun v w' => ∃ (J : Im), Im.le I J ∧ Sat J (F) w' ∧ v = .int .i64 r := by
  unfold f13_m at hm
  refine cv_of (n := 82) Go.Proofs.Try.func13 rfl rfl (Nat.le_of_ble_eq_true rfl) ?_
  refine cw_seq ?_
  refine cw_region ?_
  refine ow_box (v := .agg #[.int .i64 x1_0, .int .i64 x1_1, .slice ax1_2 x1_2.length cx1_2]) (cs := [.int .i64 x1_0, .int .i64 x1_1, .slice ax1_2 x1_2.length cx1_2]) hs rfl rfl ?_
  clear hs; intro b1 w hs
  refine ow_box (v := .agg #[.int .i64 x2_0, .int .i64 x2_1, .int .i64 x2_2, .int .i64 x2_3, .int .i64 x2_4, .int .i64 x2_5]) (cs := [.int .i64 x2_0, .int .i64 x2_1, .int .i64 x2_2, .int .i64 x2_3, .int .i64 x2_4, .int .i64 x2_5]) hs rfl rfl ?_
  clear hs; intro b3 w hs
  refine ow_v (x_assign (v := .int .i64 0) rfl) rfl ?_
  refine ow_nil ?_
  refine seqK_n ?_
  refine cw_seq ?_
  refine cw_region ?_
  refine ow_v (x_assign (v := .int .i64 0) rfl) rfl ?_
  refine ow_nil ?_
  refine seqK_n ?_
  obtain ⟨o1106, hm2, hq1107⟩ := bind_some hm
  replace hm := hm2; clear hm2
  refine cw_join (fun f ds w => ∃ (I1108 : Im), ds = [] ∧ Im.le I I1108 ∧ Sat I1108 (blk b3 49 [.int .i64 x2_0, .int .i64 x2_1, .int .i64 x2_2, .int .i64 x2_3, .int .i64 x2_4, .int .i64 x2_5] :: blk b1 26 [.int .i64 x1_0, .int .i64 x1_1, .slice ax1_2 x1_2.length cx1_2] :: F) w ∧ f 6 = .int .i64 0 ∧ f 7 = .int .i64 o1106) ?_ ?_
  · skip
    refine cw_seq ?_
    refine cw_region ?_
    refine ow_v (x_move (v := .slice ax0 x0.length cx0) rfl) rfl ?_
    refine ow_v (x_len sl51 rfl) rfl ?_
    refine ow_v (x_move (v := .int .i64 0) rfl) rfl ?_
    refine ow_nil ?_
    refine seqK_n ?_
    refine cw_block ?_
    refine cw_loop (S := fun k f ds w => ∃ (v2_t_7 : Int) (v2_t_16 : Int), ∃ (I1843 : Im), ds = [] ∧ Im.le I I1843 ∧ f13_l0 x0 x1_0 x1_1 x1_2 x2_0 x2_1 x2_2 x2_3 k v2_t_7 v2_t_16 = some o1106 ∧ Sat I1843 (blk b3 49 [.int .i64 x2_0, .int .i64 x2_1, .int .i64 x2_2, .int .i64 x2_3, .int .i64 x2_4, .int .i64 x2_5] :: blk b1 26 [.int .i64 x1_0, .int .i64 x1_1, .slice ax1_2 x1_2.length cx1_2] :: F) w ∧ f 4 = .pointer (some ⟨b1, 0, none⟩) ∧ f 5 = .pointer (some ⟨b3, 0, none⟩) ∧ f 6 = .int .i64 0 ∧ f 7 = .int .i64 v2_t_7 ∧ f 14 = .slice ax0 x0.length cx0 ∧ f 15 = .int .i64 (x0.length : Int) ∧ f 16 = .int .i64 v2_t_16) ?_ (k := FUEL) ⟨0, 0, I, rfl, Im.le.refl _, hm, hs, rfl, rfl, rfl, rfl, rfl, rfl, rfl⟩
    clear hm hs
    rintro k f ds w ⟨v2_t_7, v2_t_16, I1843, rfl, hle1844, hm, hs, ht4_L0, ht5_L0, ht6_L0, ht7_L0, ht14_L0, ht15_L0, ht16_L0⟩
    replace hx0 := hx0.mono hle1844
    replace hx1_2 := hx1_2.mono hle1844
    rcases k with _ | k
    · unfold f13_l0 at hm; cases hm
    unfold f13_l0 at hm
    refine cw_seq ?_
    refine cw_region ?_
    refine ow_v (x_lss (k := .i64) (a := v2_t_16) (b := (x0.length : Int)) ht16_L0 ht15_L0) rfl ?_
    refine ow_nil ?_
    refine seqK_n ?_
    refine cw_seq ?_
    by_cases hc1845 : v2_t_16 < (x0.length : Int)
    · rw [if_pos hc1845] at hm
      refine cw_if_t rfl (decide_eq_true hc1845) ?_
      refine cw_skip ?_
      refine seqK_n ?_
      obtain ⟨o2027, hm2, hq2028⟩ := bind_some hm
      replace hm := hm2; clear hm2
      refine cw_join (fun f ds w => ∃ (I2029 : Im), ds = [] ∧ Im.le I1843 I2029 ∧ Sat I2029 (blk b3 49 [.int .i64 x2_0, .int .i64 x2_1, .int .i64 x2_2, .int .i64 x2_3, .int .i64 x2_4, .int .i64 x2_5] :: blk b1 26 [.int .i64 x1_0, .int .i64 x1_1, .slice ax1_2 x1_2.length cx1_2] :: F) w ∧ f 4 = .pointer (some ⟨b1, 0, none⟩) ∧ f 5 = .pointer (some ⟨b3, 0, none⟩) ∧ f 6 = .int .i64 0 ∧ f 7 = .int .i64 o2027 ∧ f 14 = .slice ax0 x0.length cx0 ∧ f 15 = .int .i64 (x0.length : Int) ∧ f 16 = .int .i64 v2_t_16) ?_ ?_
      · skip
        refine cw_block ?_
        refine cw_seq ?_
        refine cw_region ?_
        have hg2030 := (ite_some hm).1
        replace hm := (ite_some hm).2
        refine ow_index (i := v2_t_16) sl51 ty66 ht14_L0 ht16_L0 hg2030.1 hg2030.2 (Rs.some hx0 (by have := hg2030; omega)) ?_
        refine ow_loadR (p := v2_t_16.toNat * 3) (vs := [.int .i64 ((at' x0 v2_t_16).1), .int .i64 ((at' x0 v2_t_16).2.1), .int .i64 ((at' x0 v2_t_16).2.2)]) (v := .agg #[.int .i64 ((at' x0 v2_t_16).1), .int .i64 ((at' x0 v2_t_16).2.1), .int .i64 ((at' x0 v2_t_16).2.2)]) hs hx0 rfl ty66 (flat_at (enc := enc66) (sz := 3) (fun _ => rfl) x0 v2_t_16 hg2030.1 hg2030.2 0 3 (by decide)) rfl rfl ?_
        refine ow_alloc hs ty66 rfl ?_
        clear hs; intro b2031 w hs
        refine ow_store (k := 0) (vs := [.int .i64 ((at' x0 v2_t_16).1), .int .i64 ((at' x0 v2_t_16).2.1), .int .i64 ((at' x0 v2_t_16).2.2)]) (cs' := [.int .i64 ((at' x0 v2_t_16).1), .int .i64 ((at' x0 v2_t_16).2.1), .int .i64 ((at' x0 v2_t_16).2.2)]) hs rfl rfl rfl ty66 rfl rfl (Nat.le_of_ble_eq_true rfl) rfl rfl ?_
        clear hs; intro w hs
        refine ow_nil ?_
        refine seqK_n ?_
        refine cw_seq ?_
        refine cw_region ?_
        refine ow_v (x_assign (v := .int .i64 255) rfl) rfl ?_
        refine ow_nil ?_
        refine seqK_n ?_
        obtain ⟨o2120, hm2, hq2121⟩ := bind_some hm
        replace hm := hm2; clear hm2
        refine cw_join (fun f ds w => ∃ (I2122 : Im), ds = [] ∧ Im.le I1843 I2122 ∧ Sat I2122 (blk b2031 66 [.int .i64 ((at' x0 v2_t_16).1), .int .i64 ((at' x0 v2_t_16).2.1), .int .i64 ((at' x0 v2_t_16).2.2)] :: blk b3 49 [.int .i64 x2_0, .int .i64 x2_1, .int .i64 x2_2, .int .i64 x2_3, .int .i64 x2_4, .int .i64 x2_5] :: blk b1 26 [.int .i64 x1_0, .int .i64 x1_1, .slice ax1_2 x1_2.length cx1_2] :: F) w ∧ f 4 = .pointer (some ⟨b1, 0, none⟩) ∧ f 5 = .pointer (some ⟨b3, 0, none⟩) ∧ f 6 = .int .i64 0 ∧ f 7 = .int .i64 v2_t_7 ∧ f 10 = .int .i64 o2120 ∧ f 14 = .slice ax0 x0.length cx0 ∧ f 15 = .int .i64 (x0.length : Int) ∧ f 16 = .int .i64 v2_t_16) ?_ ?_
        · skip
          refine cw_seq ?_
          refine cw_region ?_
          refine ow_field (b := b3) (o := 0) fl49_1 ht5_L0 ?_
          refine ow_load (k := 1) (vs := [.int .i64 x2_1]) (v := .int .i64 x2_1) hs rfl rfl ty3 rfl rfl rfl ?_
          refine ow_indexA (b := b2031) (o := 0) (i := 1) ar66 ty3 rfl rfl (by decide) (by decide) ?_
          refine ow_load (k := 0) (vs := [.int .i64 ((at' x0 v2_t_16).2.1)]) (v := .int .i64 ((at' x0 v2_t_16).2.1)) hs rfl rfl ty3 rfl rfl rfl ?_
          refine ow_v (x_add (k := .i64) (a := x2_1) (b := ((at' x0 v2_t_16).2.1)) rfl rfl) rfl ?_
          refine ow_v (x_max2 (k := .i64) (a := (w64 (x2_1 + ((at' x0 v2_t_16).2.1)))) (b := 0) rfl rfl) rfl ?_
          refine ow_v (x_assign (v := .int .i64 (max (w64 (x2_1 + ((at' x0 v2_t_16).2.1))) 0)) rfl) rfl ?_
          refine ow_nil ?_
          refine seqK_n ?_
          refine cw_block ?_
          refine cw_loop (S := fun k f ds w => ∃ (v1_t_10 : Int) (v1_t_11 : Int), ∃ (I2181 : Im), ds = [] ∧ Im.le I1843 I2181 ∧ f13_l1 x0 x1_0 x1_1 x1_2 x2_0 x2_2 x2_3 v2_t_16 k v1_t_10 v1_t_11 = some o2120 ∧ Sat I2181 (blk b2031 66 [.int .i64 ((at' x0 v2_t_16).1), .int .i64 ((at' x0 v2_t_16).2.1), .int .i64 ((at' x0 v2_t_16).2.2)] :: blk b3 49 [.int .i64 x2_0, .int .i64 x2_1, .int .i64 x2_2, .int .i64 x2_3, .int .i64 x2_4, .int .i64 x2_5] :: blk b1 26 [.int .i64 x1_0, .int .i64 x1_1, .slice ax1_2 x1_2.length cx1_2] :: F) w ∧ f 4 = .pointer (some ⟨b1, 0, none⟩) ∧ f 5 = .pointer (some ⟨b3, 0, none⟩) ∧ f 6 = .int .i64 0 ∧ f 7 = .int .i64 v2_t_7 ∧ f 9 = .pointer (some ⟨b2031, 0, none⟩) ∧ f 10 = .int .i64 v1_t_10 ∧ f 11 = .int .i64 v1_t_11 ∧ f 14 = .slice ax0 x0.length cx0 ∧ f 15 = .int .i64 (x0.length : Int) ∧ f 16 = .int .i64 v2_t_16) ?_ (k := FUEL) ⟨255, max (w64 (x2_1 + ((at' x0 v2_t_16).2.1))) 0, I1843, rfl, Im.le.refl _, hm, hs, ht4_L0, ht5_L0, ht6_L0, ht7_L0, rfl, rfl, rfl, ht14_L0, ht15_L0, ht16_L0⟩
          clear hm hs
          rintro k f ds w ⟨v1_t_10, v1_t_11, I2181, rfl, hle2182, hm, hs, ht4_L1, ht5_L1, ht6_L1, ht7_L1, ht9_L1, ht10_L1, ht11_L1, ht14_L1, ht15_L1, ht16_L1⟩
          replace hx0 := hx0.mono hle2182
          replace hx1_2 := hx1_2.mono hle2182
          rcases k with _ | k
          · unfold f13_l1 at hm; cases hm
          unfold f13_l1 at hm
          refine cw_seq ?_
          refine cw_seq ?_
          refine cw_region ?_
          refine ow_v (x_move (v := .int .i64 v1_t_11) ht11_L1) rfl ?_
          refine ow_field (b := b3) (o := 0) fl49_3 ht5_L1 ?_
          refine ow_load (k := 1) (vs := [.int .i64 x2_3]) (v := .int .i64 x2_3) hs rfl rfl ty3 rfl rfl rfl ?_
          refine ow_indexA (b := b2031) (o := 0) (i := 1) ar66 ty3 ht9_L1 rfl (by decide) (by decide) ?_
          refine ow_load (k := 0) (vs := [.int .i64 ((at' x0 v2_t_16).2.1)]) (v := .int .i64 ((at' x0 v2_t_16).2.1)) hs rfl rfl ty3 rfl rfl rfl ?_
          refine ow_v (x_add (k := .i64) (a := x2_3) (b := ((at' x0 v2_t_16).2.1)) rfl rfl) rfl ?_
          refine ow_field (b := b1) (o := 0) fl26_1 ht4_L1 ?_
          refine ow_load (k := 2) (vs := [.int .i64 x1_1]) (v := .int .i64 x1_1) hs rfl rfl ty3 rfl rfl rfl ?_
          refine ow_v (x_sub (k := .i64) (a := x1_1) (b := 1) rfl rfl) rfl ?_
          refine ow_v (x_min2 (k := .i64) (a := (w64 (x2_3 + ((at' x0 v2_t_16).2.1)))) (b := (w64 (x1_1 - 1))) rfl rfl) rfl ?_
          refine ow_v (x_leq (k := .i64) (a := v1_t_11) (b := (min (w64 (x2_3 + ((at' x0 v2_t_16).2.1))) (w64 (x1_1 - 1)))) rfl rfl) rfl ?_
          refine ow_nil ?_
          refine seqK_n ?_
          by_cases hc2183 : v1_t_11 ≤ (min (w64 (x2_3 + ((at' x0 v2_t_16).2.1))) (w64 (x1_1 - 1)))
          · rw [if_pos hc2183] at hm
            refine cw_if_t rfl (decide_eq_true hc2183) ?_
            refine cw_skip ?_
            refine seqK_n ?_
            obtain ⟨o2196, hm2, hq2197⟩ := bind_some hm
            replace hm := hm2; clear hm2
            refine cw_join (fun f ds w => ∃ (I2198 : Im), ds = [] ∧ Im.le I2181 I2198 ∧ Sat I2198 (blk b2031 66 [.int .i64 ((at' x0 v2_t_16).1), .int .i64 ((at' x0 v2_t_16).2.1), .int .i64 ((at' x0 v2_t_16).2.2)] :: blk b3 49 [.int .i64 x2_0, .int .i64 x2_1, .int .i64 x2_2, .int .i64 x2_3, .int .i64 x2_4, .int .i64 x2_5] :: blk b1 26 [.int .i64 x1_0, .int .i64 x1_1, .slice ax1_2 x1_2.length cx1_2] :: F) w ∧ f 4 = .pointer (some ⟨b1, 0, none⟩) ∧ f 5 = .pointer (some ⟨b3, 0, none⟩) ∧ f 6 = .int .i64 0 ∧ f 7 = .int .i64 v2_t_7 ∧ f 9 = .pointer (some ⟨b2031, 0, none⟩) ∧ f 10 = .int .i64 o2196 ∧ f 11 = .int .i64 v1_t_11 ∧ f 14 = .slice ax0 x0.length cx0 ∧ f 15 = .int .i64 (x0.length : Int) ∧ f 16 = .int .i64 v2_t_16) ?_ ?_
            · skip
              refine cw_block ?_
              refine cw_seq ?_
              refine cw_region ?_
              refine ow_field (b := b3) (o := 0) fl49_0 ht5_L1 ?_
              refine ow_load (k := 1) (vs := [.int .i64 x2_0]) (v := .int .i64 x2_0) hs rfl rfl ty3 rfl rfl rfl ?_
              refine ow_indexA (b := b2031) (o := 0) (i := 0) ar66 ty3 ht9_L1 rfl (by decide) (by decide) ?_
              refine ow_load (k := 0) (vs := [.int .i64 ((at' x0 v2_t_16).1)]) (v := .int .i64 ((at' x0 v2_t_16).1)) hs rfl rfl ty3 rfl rfl rfl ?_
              refine ow_v (x_add (k := .i64) (a := x2_0) (b := ((at' x0 v2_t_16).1)) rfl rfl) rfl ?_
              refine ow_v (x_max2 (k := .i64) (a := (w64 (x2_0 + ((at' x0 v2_t_16).1)))) (b := 0) rfl rfl) rfl ?_
              refine ow_v (x_assign (v := .int .i64 (max (w64 (x2_0 + ((at' x0 v2_t_16).1))) 0)) rfl) rfl ?_
              refine ow_nil ?_
              refine seqK_n ?_
              refine cw_block ?_
              refine cw_loop (S := fun k f ds w => ∃ (v0_t_10 : Int) (v0_t_12 : Int), ∃ (I2207 : Im), ds = [] ∧ Im.le I2181 I2207 ∧ f13_l2 x0 x1_0 x1_2 x2_2 v2_t_16 v1_t_11 k v0_t_10 v0_t_12 = some o2196 ∧ Sat I2207 (blk b2031 66 [.int .i64 ((at' x0 v2_t_16).1), .int .i64 ((at' x0 v2_t_16).2.1), .int .i64 ((at' x0 v2_t_16).2.2)] :: blk b3 49 [.int .i64 x2_0, .int .i64 x2_1, .int .i64 x2_2, .int .i64 x2_3, .int .i64 x2_4, .int .i64 x2_5] :: blk b1 26 [.int .i64 x1_0, .int .i64 x1_1, .slice ax1_2 x1_2.length cx1_2] :: F) w ∧ f 4 = .pointer (some ⟨b1, 0, none⟩) ∧ f 5 = .pointer (some ⟨b3, 0, none⟩) ∧ f 6 = .int .i64 0 ∧ f 7 = .int .i64 v2_t_7 ∧ f 9 = .pointer (some ⟨b2031, 0, none⟩) ∧ f 10 = .int .i64 v0_t_10 ∧ f 11 = .int .i64 v1_t_11 ∧ f 12 = .int .i64 v0_t_12 ∧ f 14 = .slice ax0 x0.length cx0 ∧ f 15 = .int .i64 (x0.length : Int) ∧ f 16 = .int .i64 v2_t_16) ?_ (k := FUEL) ⟨v1_t_10, max (w64 (x2_0 + ((at' x0 v2_t_16).1))) 0, I2181, rfl, Im.le.refl _, hm, hs, ht4_L1, ht5_L1, ht6_L1, ht7_L1, ht9_L1, ht10_L1, ht11_L1, rfl, ht14_L1, ht15_L1, ht16_L1⟩
              clear hm hs
              rintro k f ds w ⟨v0_t_10, v0_t_12, I2207, rfl, hle2208, hm, hs, ht4_L2, ht5_L2, ht6_L2, ht7_L2, ht9_L2, ht10_L2, ht11_L2, ht12_L2, ht14_L2, ht15_L2, ht16_L2⟩
              replace hx0 := hx0.mono hle2208
              replace hx1_2 := hx1_2.mono hle2208
              rcases k with _ | k
              · unfold f13_l2 at hm; cases hm
              unfold f13_l2 at hm
              refine cw_seq ?_
              refine cw_seq ?_
              refine cw_region ?_
              refine ow_v (x_move (v := .int .i64 v0_t_12) ht12_L2) rfl ?_
              refine ow_field (b := b3) (o := 0) fl49_2 ht5_L2 ?_
              refine ow_load (k := 1) (vs := [.int .i64 x2_2]) (v := .int .i64 x2_2) hs rfl rfl ty3 rfl rfl rfl ?_
              refine ow_indexA (b := b2031) (o := 0) (i := 0) ar66 ty3 ht9_L2 rfl (by decide) (by decide) ?_
              refine ow_load (k := 0) (vs := [.int .i64 ((at' x0 v2_t_16).1)]) (v := .int .i64 ((at' x0 v2_t_16).1)) hs rfl rfl ty3 rfl rfl rfl ?_
              refine ow_v (x_add (k := .i64) (a := x2_2) (b := ((at' x0 v2_t_16).1)) rfl rfl) rfl ?_
              refine ow_field (b := b1) (o := 0) fl26_0 ht4_L2 ?_
              refine ow_load (k := 2) (vs := [.int .i64 x1_0]) (v := .int .i64 x1_0) hs rfl rfl ty3 rfl rfl rfl ?_
              refine ow_v (x_sub (k := .i64) (a := x1_0) (b := 1) rfl rfl) rfl ?_
              refine ow_v (x_min2 (k := .i64) (a := (w64 (x2_2 + ((at' x0 v2_t_16).1)))) (b := (w64 (x1_0 - 1))) rfl rfl) rfl ?_
              refine ow_v (x_leq (k := .i64) (a := v0_t_12) (b := (min (w64 (x2_2 + ((at' x0 v2_t_16).1))) (w64 (x1_0 - 1)))) rfl rfl) rfl ?_
              refine ow_nil ?_
              refine seqK_n ?_
              by_cases hc2209 : v0_t_12 ≤ (min (w64 (x2_2 + ((at' x0 v2_t_16).1))) (w64 (x1_0 - 1)))
              · rw [if_pos hc2209] at hm
                refine cw_if_t rfl (decide_eq_true hc2209) ?_
                refine cw_skip ?_
                refine seqK_n ?_
                refine cw_seq ?_
                refine cw_block ?_
                refine cw_seq ?_
                have hg2210 := (ite_some hm).1
                replace hm := (ite_some hm).2
                refine cw_drawF mixed rfl (fun f0 L f w => ∃ (Iq : Im), Im.le I2207 Iq ∧ f = frL [(58, 0, .pointer (some ⟨b2031, 2, none⟩)), (59, 1, .int .i64 ((at' x0 v2_t_16).2.2)), (60, 2, .pointer (some ⟨b1, 2, none⟩)), (61, 3, .slice ax1_2 x1_2.length cx1_2), (62, 4, .int .i64 v1_t_11), (63, 5, .pointer (some ⟨b1, 0, none⟩)), (64, 6, .int .i64 x1_0), (65, 7, .int .i64 (w64 (v1_t_11 * x1_0))), (66, 8, .int .i64 v0_t_12), (67, 9, .int .i64 (w64 ((w64 (v1_t_11 * x1_0)) + v0_t_12))), (68, 10, .pointer (some (ea ax1_2 ((w64 ((w64 (v1_t_11 * x1_0)) + v0_t_12)).toNat * 1)))), (69, 11, .int .i64 (at' x1_2 (w64 ((w64 (v1_t_11 * x1_0)) + v0_t_12)))), (70, 12, .int .i64 (w64 (((at' x0 v2_t_16).2.2) - (at' x1_2 (w64 ((w64 (v1_t_11 * x1_0)) + v0_t_12)))))), (13, 13, .int .i64 (w64 (((at' x0 v2_t_16).2.2) - (at' x1_2 (w64 ((w64 (v1_t_11 * x1_0)) + v0_t_12))))))] L f0 ∧ Sat Iq (blk b2031 66 [.int .i64 ((at' x0 v2_t_16).1), .int .i64 ((at' x0 v2_t_16).2.1), .int .i64 ((at' x0 v2_t_16).2.2)] :: blk b3 49 [.int .i64 x2_0, .int .i64 x2_1, .int .i64 x2_2, .int .i64 x2_3, .int .i64 x2_4, .int .i64 x2_5] :: blk b1 26 [.int .i64 x1_0, .int .i64 x1_1, .slice ax1_2 x1_2.length cx1_2] :: F) w) ⟨I2207, Im.le.refl _, (frL_ff _).symm, hs.drew⟩ ⟨?_, ?_, ?_, ?_, ?_, ?_, ?_, ?_, ?_, ?_, ?_, ?_, ?_, ?_, trivial⟩ ?_
                all_goals clear hs
                · rintro L f w _ hL ⟨Iq, hleq, rfl, hs⟩
                  replace hx0 := hx0.mono hleq
                  replace hx1_2 := hx1_2.mono hleq
                  refine ow_indexA (b := b2031) (o := 0) (i := 2) ar66 ty3 ht9_L2 rfl (by decide) (by decide) ?_
                  exact ow_nil ⟨rfl, rfl, Iq, hleq, frL_set rfl rfl, hs⟩
                · rintro L f w ⟨hL0, _⟩ hL ⟨Iq, hleq, rfl, hs⟩
                  replace hx0 := hx0.mono hleq
                  replace hx1_2 := hx1_2.mono hleq
                  refine ow_load (k := 0) (vs := [.int .i64 ((at' x0 v2_t_16).2.2)]) (v := .int .i64 ((at' x0 v2_t_16).2.2)) hs rfl (frL_get rfl hL0) ty3 rfl rfl rfl ?_
                  exact ow_nil ⟨rfl, rfl, Iq, hleq, frL_set rfl rfl, hs⟩
                · rintro L f w _ hL ⟨Iq, hleq, rfl, hs⟩
                  replace hx0 := hx0.mono hleq
                  replace hx1_2 := hx1_2.mono hleq
                  refine ow_field (b := b1) (o := 0) fl26_2 ht4_L2 ?_
                  exact ow_nil ⟨rfl, rfl, Iq, hleq, frL_set rfl rfl, hs⟩
                · rintro L f w ⟨hL2, _⟩ hL ⟨Iq, hleq, rfl, hs⟩
                  replace hx0 := hx0.mono hleq
                  replace hx1_2 := hx1_2.mono hleq
                  refine ow_load (k := 2) (vs := [.slice ax1_2 x1_2.length cx1_2]) (v := .slice ax1_2 x1_2.length cx1_2) hs rfl (frL_get rfl hL2) ty24 rfl rfl rfl ?_
                  exact ow_nil ⟨rfl, rfl, Iq, hleq, frL_set rfl rfl, hs⟩
                · rintro L f w _ hL ⟨Iq, hleq, rfl, hs⟩
                  replace hx0 := hx0.mono hleq
                  replace hx1_2 := hx1_2.mono hleq
                  refine ow_v (x_move (v := .int .i64 v1_t_11) ht11_L2) rfl ?_
                  exact ow_nil ⟨rfl, rfl, Iq, hleq, frL_set rfl rfl, hs⟩
                · rintro L f w _ hL ⟨Iq, hleq, rfl, hs⟩
                  replace hx0 := hx0.mono hleq
                  replace hx1_2 := hx1_2.mono hleq
                  refine ow_field (b := b1) (o := 0) fl26_0 ht4_L2 ?_
                  exact ow_nil ⟨rfl, rfl, Iq, hleq, frL_set rfl rfl, hs⟩
                · rintro L f w ⟨hL5, _⟩ hL ⟨Iq, hleq, rfl, hs⟩
                  replace hx0 := hx0.mono hleq
                  replace hx1_2 := hx1_2.mono hleq
                  refine ow_load (k := 2) (vs := [.int .i64 x1_0]) (v := .int .i64 x1_0) hs rfl (frL_get rfl hL5) ty3 rfl rfl rfl ?_
                  exact ow_nil ⟨rfl, rfl, Iq, hleq, frL_set rfl rfl, hs⟩
                · rintro L f w ⟨hL4, hL6, _⟩ hL ⟨Iq, hleq, rfl, hs⟩
                  replace hx0 := hx0.mono hleq
                  replace hx1_2 := hx1_2.mono hleq
                  refine ow_v (x_mul (k := .i64) (a := v1_t_11) (b := x1_0) (frL_get rfl hL4) (frL_get rfl hL6)) rfl ?_
                  exact ow_nil ⟨rfl, rfl, Iq, hleq, frL_set rfl rfl, hs⟩
                · rintro L f w _ hL ⟨Iq, hleq, rfl, hs⟩
                  replace hx0 := hx0.mono hleq
                  replace hx1_2 := hx1_2.mono hleq
                  refine ow_v (x_move (v := .int .i64 v0_t_12) ht12_L2) rfl ?_
                  exact ow_nil ⟨rfl, rfl, Iq, hleq, frL_set rfl rfl, hs⟩
                · rintro L f w ⟨hL7, hL8, _⟩ hL ⟨Iq, hleq, rfl, hs⟩
                  replace hx0 := hx0.mono hleq
                  replace hx1_2 := hx1_2.mono hleq
                  refine ow_v (x_add (k := .i64) (a := (w64 (v1_t_11 * x1_0))) (b := v0_t_12) (frL_get rfl hL7) (frL_get rfl hL8)) rfl ?_
                  exact ow_nil ⟨rfl, rfl, Iq, hleq, frL_set rfl rfl, hs⟩
                · rintro L f w ⟨hL3, hL9, _⟩ hL ⟨Iq, hleq, rfl, hs⟩
                  replace hx0 := hx0.mono hleq
                  replace hx1_2 := hx1_2.mono hleq
                  refine ow_index (i := (w64 ((w64 (v1_t_11 * x1_0)) + v0_t_12))) sl24 ty3 (frL_get rfl hL3) (frL_get rfl hL9) hg2210.1 hg2210.2 (Rs.some hx1_2 (by have := hg2210; omega)) ?_
                  exact ow_nil ⟨rfl, rfl, Iq, hleq, frL_set rfl rfl, hs⟩
                · rintro L f w ⟨hL10, _⟩ hL ⟨Iq, hleq, rfl, hs⟩
                  replace hx0 := hx0.mono hleq
                  replace hx1_2 := hx1_2.mono hleq
                  refine ow_loadR (p := (w64 ((w64 (v1_t_11 * x1_0)) + v0_t_12)).toNat * 1) (vs := [.int .i64 (at' x1_2 (w64 ((w64 (v1_t_11 * x1_0)) + v0_t_12)))]) (v := .int .i64 (at' x1_2 (w64 ((w64 (v1_t_11 * x1_0)) + v0_t_12)))) hs hx1_2 (frL_get rfl hL10) ty3 (flat_at (enc := e64) (sz := 1) (fun _ => rfl) x1_2 (w64 ((w64 (v1_t_11 * x1_0)) + v0_t_12)) hg2210.1 hg2210.2 0 1 (by decide)) rfl rfl ?_
                  exact ow_nil ⟨rfl, rfl, Iq, hleq, frL_set rfl rfl, hs⟩
                · rintro L f w ⟨hL1, hL11, _⟩ hL ⟨Iq, hleq, rfl, hs⟩
                  replace hx0 := hx0.mono hleq
                  replace hx1_2 := hx1_2.mono hleq
                  refine ow_v (x_sub (k := .i64) (a := ((at' x0 v2_t_16).2.2)) (b := (at' x1_2 (w64 ((w64 (v1_t_11 * x1_0)) + v0_t_12)))) (frL_get rfl hL1) (frL_get rfl hL11)) rfl ?_
                  exact ow_nil ⟨rfl, rfl, Iq, hleq, frL_set rfl rfl, hs⟩
                · rintro L f w ⟨hL12, hL0, hL1, hL2, hL3, hL4, hL5, hL6, hL7, hL8, hL9, hL10, hL11, _, _⟩ hL ⟨Iq, hleq, rfl, hs⟩
                  replace hx0 := hx0.mono hleq
                  replace hx1_2 := hx1_2.mono hleq
                  refine ow_v (x_assign (v := .int .i64 (w64 (((at' x0 v2_t_16).2.2) - (at' x1_2 (w64 ((w64 (v1_t_11 * x1_0)) + v0_t_12)))))) (frL_get rfl hL12)) rfl ?_
                  exact ow_nil ⟨rfl, rfl, Iq, hleq, frL_set rfl rfl, hs⟩
                rintro L f w hall ⟨I2212, hle2211, rfl, hs⟩
                rw [frL_tt _ rfl hall]
                replace hx0 := hx0.mono hle2211
                replace hx1_2 := hx1_2.mono hle2211
                refine seqK_n ?_
                refine cw_region ?_
                refine ow_v (x_move (v := .int .i64 v0_t_10) ht10_L2) rfl ?_
                refine ow_v (x_move (v := .int .i64 (w64 (((at' x0 v2_t_16).2.2) - (at' x1_2 (w64 ((w64 (v1_t_11 * x1_0)) + v0_t_12)))))) rfl) rfl ?_
                refine ow_v (x_move (v := .int .i64 (w64 (((at' x0 v2_t_16).2.2) - (at' x1_2 (w64 ((w64 (v1_t_11 * x1_0)) + v0_t_12)))))) rfl) rfl ?_
                refine ow_v (x_neg (k := .i64) (a := (w64 (((at' x0 v2_t_16).2.2) - (at' x1_2 (w64 ((w64 (v1_t_11 * x1_0)) + v0_t_12)))))) rfl) rfl ?_
                refine ow_v (x_max2 (k := .i64) (a := (w64 (((at' x0 v2_t_16).2.2) - (at' x1_2 (w64 ((w64 (v1_t_11 * x1_0)) + v0_t_12)))))) (b := (w64 (0 - (w64 (((at' x0 v2_t_16).2.2) - (at' x1_2 (w64 ((w64 (v1_t_11 * x1_0)) + v0_t_12)))))))) rfl rfl) rfl ?_
                refine ow_v (x_min2 (k := .i64) (a := v0_t_10) (b := (max (w64 (((at' x0 v2_t_16).2.2) - (at' x1_2 (w64 ((w64 (v1_t_11 * x1_0)) + v0_t_12))))) (w64 (0 - (w64 (((at' x0 v2_t_16).2.2) - (at' x1_2 (w64 ((w64 (v1_t_11 * x1_0)) + v0_t_12))))))))) rfl rfl) rfl ?_
                refine ow_v (x_assign (v := .int .i64 (min v0_t_10 (max (w64 (((at' x0 v2_t_16).2.2) - (at' x1_2 (w64 ((w64 (v1_t_11 * x1_0)) + v0_t_12))))) (w64 (0 - (w64 (((at' x0 v2_t_16).2.2) - (at' x1_2 (w64 ((w64 (v1_t_11 * x1_0)) + v0_t_12)))))))))) rfl) rfl ?_
                refine ow_nil ?_
                refine blockK_n ?_
                refine seqK_n ?_
                refine cw_region ?_
                refine ow_v (x_move (v := .int .i64 v0_t_12) ht12_L2) rfl ?_
                refine ow_v (x_add (k := .i64) (a := v0_t_12) (b := 1) rfl rfl) rfl ?_
                refine ow_v (x_assign (v := .int .i64 (w64 (v0_t_12 + 1))) rfl) rfl ?_
                refine ow_nil ?_
                exact loopK_n ⟨k, Nat.lt_succ_self k, min v0_t_10 (max (w64 (((at' x0 v2_t_16).2.2) - (at' x1_2 (w64 ((w64 (v1_t_11 * x1_0)) + v0_t_12))))) (w64 (0 - (w64 (((at' x0 v2_t_16).2.2) - (at' x1_2 (w64 ((w64 (v1_t_11 * x1_0)) + v0_t_12)))))))), w64 (v0_t_12 + 1), I2212, rfl, (hle2208.trans hle2211), hm, hs, ht4_L2, ht5_L2, ht6_L2, ht7_L2, ht9_L2, rfl, ht11_L2, rfl, ht14_L2, ht15_L2, ht16_L2⟩
              · rw [if_neg hc2209] at hm
                refine cw_if_f rfl (decide_eq_false hc2209) ?_
                refine cw_exit ?_
                refine seqK_x ?_
                refine loopK_x ?_
                refine blockK_hit ?_
                refine blockK_n ?_
                obtain rfl := Option.some.inj hm
                refine joinK_n ⟨I2207, rfl, hle2208, hs, ht4_L2, ht5_L2, ht6_L2, ht7_L2, ht9_L2, ht10_L2, ht11_L2, ht14_L2, ht15_L2, ht16_L2⟩
            · clear hm hs
              rintro f ds w ⟨I2198, rfl, hle2213, hs, ht4_o2196, ht5_o2196, ht6_o2196, ht7_o2196, ht9_o2196, ht10_o2196, ht11_o2196, ht14_o2196, ht15_o2196, ht16_o2196⟩
              replace hm := hq2197
              replace hx0 := hx0.mono hle2213
              replace hx1_2 := hx1_2.mono hle2213
              refine cw_region ?_
              refine ow_v (x_move (v := .int .i64 v1_t_11) ht11_o2196) rfl ?_
              refine ow_v (x_add (k := .i64) (a := v1_t_11) (b := 1) rfl rfl) rfl ?_
              refine ow_v (x_assign (v := .int .i64 (w64 (v1_t_11 + 1))) rfl) rfl ?_
              refine ow_nil ?_
              exact loopK_n ⟨k, Nat.lt_succ_self k, o2196, w64 (v1_t_11 + 1), I2198, rfl, (hle2182.trans hle2213), hm, hs, ht4_o2196, ht5_o2196, ht6_o2196, ht7_o2196, ht9_o2196, ht10_o2196, rfl, ht14_o2196, ht15_o2196, ht16_o2196⟩
          · rw [if_neg hc2183] at hm
            refine cw_if_f rfl (decide_eq_false hc2183) ?_
            refine cw_exit ?_
            refine seqK_x ?_
            refine loopK_x ?_
            refine blockK_hit ?_
            obtain rfl := Option.some.inj hm
            refine joinK_n ⟨I2181, rfl, hle2182, hs, ht4_L1, ht5_L1, ht6_L1, ht7_L1, ht10_L1, ht14_L1, ht15_L1, ht16_L1⟩
        · clear hm hs
          rintro f ds w ⟨I2122, rfl, hle2214, hs, ht4_o2120, ht5_o2120, ht6_o2120, ht7_o2120, ht10_o2120, ht14_o2120, ht15_o2120, ht16_o2120⟩
          replace hm := hq2121
          replace hx0 := hx0.mono hle2214
          replace hx1_2 := hx1_2.mono hle2214
          refine cw_region ?_
          refine ow_v (x_move (v := .int .i64 v2_t_7) ht7_o2120) rfl ?_
          refine ow_v (x_move (v := .int .i64 o2120) ht10_o2120) rfl ?_
          refine ow_v (x_add (k := .i64) (a := v2_t_7) (b := o2120) rfl rfl) rfl ?_
          refine ow_v (x_assign (v := .int .i64 (w64 (v2_t_7 + o2120))) rfl) rfl ?_
          refine ow_nil ?_
          refine blockK_n ?_
          replace hs := hs.erase 0
          obtain rfl := Option.some.inj hm
          refine joinK_n ⟨I2122, rfl, hle2214, hs, ht4_o2120, ht5_o2120, ht6_o2120, rfl, ht14_o2120, ht15_o2120, ht16_o2120⟩
      · clear hm hs
        rintro f ds w ⟨I2029, rfl, hle2215, hs, ht4_o2027, ht5_o2027, ht6_o2027, ht7_o2027, ht14_o2027, ht15_o2027, ht16_o2027⟩
        replace hm := hq2028
        replace hx0 := hx0.mono hle2215
        replace hx1_2 := hx1_2.mono hle2215
        refine cw_region ?_
        refine ow_v (x_add (k := .i64) (a := v2_t_16) (b := 1) ht16_o2027 rfl) rfl ?_
        refine ow_v (x_move (v := .int .i64 (w64 (v2_t_16 + 1))) rfl) rfl ?_
        refine ow_nil ?_
        exact loopK_n ⟨k, Nat.lt_succ_self k, o2027, w64 (v2_t_16 + 1), I2029, rfl, (hle1844.trans hle2215), hm, hs, ht4_o2027, ht5_o2027, ht6_o2027, ht7_o2027, ht14_o2027, ht15_o2027, rfl⟩
    · rw [if_neg hc1845] at hm
      refine cw_if_f rfl (decide_eq_false hc1845) ?_
      refine cw_exit ?_
      refine seqK_x ?_
      refine loopK_x ?_
      refine blockK_hit ?_
      obtain rfl := Option.some.inj hm
      refine joinK_n ⟨I1843, rfl, hle1844, hs, ht6_L0, ht7_L0⟩
  · clear hm hs
    rintro f ds w ⟨I1108, rfl, hle2216, hs, ht6_o1106, ht7_o1106⟩
    replace hm := hq1107
    replace hx0 := hx0.mono hle2216
    replace hx1_2 := hx1_2.mono hle2216
    refine cw_seq ?_
    refine cw_region ?_
    refine ow_v (x_move (v := .int .i64 o1106) ht7_o1106) rfl ?_
    refine ow_v (x_assign (v := .int .i64 o1106) rfl) rfl ?_
    refine ow_nil ?_
    refine seqK_n ?_
    refine cw_ret ?_
    refine ret_ok (rs := [.tmp 6]) (vs := [.int .i64 o1106]) (.inr rfl) rfl ⟨rfl, trivial⟩ ?_
    obtain rfl := Option.some.inj hm
    replace hs := hs.erase 0
    replace hs := hs.erase 0
    exact ⟨I1108, hle2216, hs, rfl⟩

-- f11 sightbench/find.stencilOf
def f11_l0 (x0_0 : Int) (x0_1 : Int) (x0_2 : List Int) (x1 : Int) (x2 : Int) : Nat → Int → (List (Int × Int × Int)) → Option (List (Int × Int × Int))
  | 0, _, _ => none
  | k + 1, v0_t_15, v0_o_nt_7 => (if v0_t_15 < (x0_2.length : Int) then (if 0 ≤ v0_t_15 ∧ v0_t_15 < (x0_2.length : Int) then (if 0 ≤ (at' x0_2 v0_t_15) then (if x0_0 ≠ 0 then (if x0_0 ≠ 0 then ((f22_m x0_0 x0_1 x0_2 x1 x2 (Int.tmod v0_t_15 x0_0) (w64 (Int.tdiv v0_t_15 x0_0))).bind fun r176 => (if v0_o_nt_7.length + [(r176.1, r176.2, (at' x0_2 v0_t_15))].length ≤ 1099511627776 then (f11_l0 x0_0 x0_1 x0_2 x1 x2 k (w64 (v0_t_15 + 1)) (v0_o_nt_7 ++ [(r176.1, r176.2, (at' x0_2 v0_t_15))])) else none)) else none) else none) else (f11_l0 x0_0 x0_1 x0_2 x1 x2 k (w64 (v0_t_15 + 1)) v0_o_nt_7)) else none) else some v0_o_nt_7)
def f11_m (x0_0 : Int) (x0_1 : Int) (x0_2 : List Int) (x1 : Int) (x2 : Int) : Option (List (Int × Int × Int)) :=
  ((f11_l0 x0_0 x0_1 x0_2 x1 x2 FUEL 0 ([] : List (Int × Int × Int))).bind fun (o130 : List (Int × Int × Int)) => some o130)
theorem f11_ok (x0_0 : Int) (x0_1 : Int) (x0_2 : List Int) (x1 : Int) (x2 : Int) {r : List (Int × Int × Int)} (hm : f11_m x0_0 x0_1 x0_2 x1 x2 = some r) {ax0_2 : Option Addr} {cx0_2 : Nat} {I : Im} {F : List HP} {w : World} (hs : Sat I (F) w) (hx0_2 : Rs I 1 ax0_2 x0_2.length cx0_2 (x0_2.flatMap e64)) :
    CV P 11 [.agg #[.int .i64 x0_0, .int .i64 x0_1, .slice ax0_2 x0_2.length cx0_2], .int .i64 x1, .int .i64 x2] w fun v w' => ∃ (J : Im) (a0 : Option Addr) (c0 : Nat), Im.le I J ∧ Sat J (F) w' ∧ v = .slice a0 r.length c0 ∧ Rs J 3 a0 r.length c0 (r.flatMap enc66) := by
  unfold f11_m at hm
  refine cv_of (n := 46) Go.Proofs.Try.func11 rfl rfl (Nat.le_of_ble_eq_true rfl) ?_
  refine cw_seq ?_
  refine cw_region ?_
  refine ow_box (v := .agg #[.int .i64 x0_0, .int .i64 x0_1, .slice ax0_2 x0_2.length cx0_2]) (cs := [.int .i64 x0_0, .int .i64 x0_1, .slice ax0_2 x0_2.length cx0_2]) hs rfl rfl ?_
  clear hs; intro b1 w hs
  refine ow_v (x_assign (v := .slice none 0 0) rfl) rfl ?_
  refine ow_nil ?_
  refine seqK_n ?_
  refine cw_seq ?_
  refine cw_region ?_
  refine ow_v (x_assign (v := .slice none 0 0) rfl) rfl ?_
  refine ow_nil ?_
  refine seqK_n ?_
  replace hs := hs.pushNil 66 3
  obtain ⟨o130, hm2, hq131⟩ := bind_some hm
  replace hm := hm2; clear hm2
  refine cw_join (fun f ds w => ∃ (a_o_nt_7 : Option Addr) (c_o_nt_7 : Nat) (I132 : Im), ds = [] ∧ Im.le I I132 ∧ Sat I132 (osl 66 3 a_o_nt_7 o130.length c_o_nt_7 (o130.flatMap enc66) :: blk b1 28 [.int .i64 x0_0, .int .i64 x0_1, .slice ax0_2 x0_2.length cx0_2] :: F) w ∧ f 6 = .slice none 0 0 ∧ f 7 = .slice a_o_nt_7 o130.length c_o_nt_7) ?_ ?_
  · skip
    refine cw_seq ?_
    refine cw_region ?_
    refine ow_field (b := b1) (o := 0) fl28_2 rfl ?_
    refine ow_load (k := 1) (vs := [.slice ax0_2 x0_2.length cx0_2]) (v := .slice ax0_2 x0_2.length cx0_2) hs rfl rfl ty24 rfl rfl rfl ?_
    refine ow_v (x_len sl24 rfl) rfl ?_
    refine ow_v (x_move (v := .int .i64 0) rfl) rfl ?_
    refine ow_nil ?_
    refine seqK_n ?_
    refine cw_block ?_
    refine cw_loop (S := fun k f ds w => ∃ (v0_t_15 : Int) (v0_o_nt_7 : List (Int × Int × Int)), ∃ (a_o_nt_7 : Option Addr) (c_o_nt_7 : Nat) (I169 : Im), ds = [] ∧ Im.le I I169 ∧ f11_l0 x0_0 x0_1 x0_2 x1 x2 k v0_t_15 v0_o_nt_7 = some o130 ∧ Sat I169 (osl 66 3 a_o_nt_7 v0_o_nt_7.length c_o_nt_7 (v0_o_nt_7.flatMap enc66) :: blk b1 28 [.int .i64 x0_0, .int .i64 x0_1, .slice ax0_2 x0_2.length cx0_2] :: F) w ∧ f 1 = .int .i64 x1 ∧ f 2 = .int .i64 x2 ∧ f 3 = .pointer (some ⟨b1, 0, none⟩) ∧ f 6 = .slice none 0 0 ∧ f 7 = .slice a_o_nt_7 v0_o_nt_7.length c_o_nt_7 ∧ f 13 = .slice ax0_2 x0_2.length cx0_2 ∧ f 14 = .int .i64 (x0_2.length : Int) ∧ f 15 = .int .i64 v0_t_15) ?_ (k := FUEL) ⟨0, ([] : List (Int × Int × Int)), none, 0, I, rfl, Im.le.refl _, hm, hs, rfl, rfl, rfl, rfl, rfl, rfl, rfl, rfl⟩
    clear hm hs
    rintro k f ds w ⟨v0_t_15, v0_o_nt_7, a_o_nt_7, c_o_nt_7, I169, rfl, hle170, hm, hs, ht1_L0, ht2_L0, ht3_L0, ht6_L0, ht7_L0, ht13_L0, ht14_L0, ht15_L0⟩
    replace hx0_2 := hx0_2.mono hle170
    rcases k with _ | k
    · unfold f11_l0 at hm; cases hm
    unfold f11_l0 at hm
    refine cw_seq ?_
    refine cw_region ?_
    refine ow_v (x_lss (k := .i64) (a := v0_t_15) (b := (x0_2.length : Int)) ht15_L0 ht14_L0) rfl ?_
    refine ow_nil ?_
    refine seqK_n ?_
    refine cw_seq ?_
    by_cases hc171 : v0_t_15 < (x0_2.length : Int)
    · rw [if_pos hc171] at hm
      refine cw_if_t rfl (decide_eq_true hc171) ?_
      refine cw_skip ?_
      refine seqK_n ?_
      refine cw_seq ?_
      refine cw_block ?_
      refine cw_seq ?_
      refine cw_region ?_
      refine ow_v (x_move (v := .int .i64 v0_t_15) ht15_L0) rfl ?_
      have hg172 := (ite_some hm).1
      replace hm := (ite_some hm).2
      refine ow_index (i := v0_t_15) sl24 ty3 ht13_L0 ht15_L0 hg172.1 hg172.2 (Rs.some hx0_2 (by have := hg172; omega)) ?_
      refine ow_loadR (p := v0_t_15.toNat * 1) (vs := [.int .i64 (at' x0_2 v0_t_15)]) (v := .int .i64 (at' x0_2 v0_t_15)) hs hx0_2 rfl ty3 (flat_at (enc := e64) (sz := 1) (fun _ => rfl) x0_2 v0_t_15 hg172.1 hg172.2 0 1 (by decide)) rfl rfl ?_
      refine ow_v (x_assign (v := .int .i64 v0_t_15) rfl) rfl ?_
      refine ow_v (x_assign (v := .int .i64 (at' x0_2 v0_t_15)) rfl) rfl ?_
      refine ow_nil ?_
      refine seqK_n ?_
      refine cw_seq ?_
      refine cw_region ?_
      refine ow_v (x_move (v := .int .i64 (at' x0_2 v0_t_15)) rfl) rfl ?_
      refine ow_v (x_geq (k := .i64) (a := (at' x0_2 v0_t_15)) (b := 0) rfl rfl) rfl ?_
      refine ow_nil ?_
      refine seqK_n ?_
      by_cases hc173 : 0 ≤ (at' x0_2 v0_t_15)
      · rw [if_pos hc173] at hm
        refine cw_if_t rfl (decide_eq_true hc173) ?_
        refine cw_seq ?_
        have hg174 := (ite_some hm).1
        replace hm := (ite_some hm).2
        have hg175 := (ite_some hm).1
        replace hm := (ite_some hm).2
        obtain ⟨r176, hr177, hm2⟩ := bind_some hm
        replace hm := hm2; clear hm2
        refine cw_drawF mixed rfl (fun f0 L f w => ∃ (Iq : Im), Im.le I169 Iq ∧ f = frL [(23, 0, .agg #[.int .i64 x0_0, .int .i64 x0_1, .slice ax0_2 x0_2.length cx0_2]), (24, 1, .int .i64 x1), (25, 2, .int .i64 x2), (26, 3, .int .i64 v0_t_15), (27, 4, .pointer (some ⟨b1, 0, none⟩)), (28, 5, .int .i64 x0_0), (29, 6, .int .i64 (Int.tmod v0_t_15 x0_0)), (30, 7, .int .i64 v0_t_15), (31, 8, .pointer (some ⟨b1, 0, none⟩)), (32, 9, .int .i64 x0_0), (33, 10, .int .i64 (w64 (Int.tdiv v0_t_15 x0_0))), (34, 11, .tuple #[.int .i64 r176.1, .int .i64 r176.2]), (22, 12, .tuple #[.int .i64 r176.1, .int .i64 r176.2]), (35, 13, .int .i64 r176.1), (36, 14, .int .i64 r176.2), (10, 15, .int .i64 r176.1), (11, 16, .int .i64 r176.2)] L f0 ∧ Sat Iq (osl 66 3 a_o_nt_7 v0_o_nt_7.length c_o_nt_7 (v0_o_nt_7.flatMap enc66) :: blk b1 28 [.int .i64 x0_0, .int .i64 x0_1, .slice ax0_2 x0_2.length cx0_2] :: F) w) ⟨I169, Im.le.refl _, (frL_ff _).symm, hs.drew⟩ ⟨?_, ?_, ?_, ?_, ?_, ?_, ?_, ?_, ?_, ?_, ?_, ?_, ?_, ?_, ?_, ?_, ?_, trivial⟩ ?_
        all_goals clear hs
        · rintro L f w _ hL ⟨Iq, hleq, rfl, hs⟩
          replace hx0_2 := hx0_2.mono hleq
          refine ow_load (k := 1) (vs := [.int .i64 x0_0, .int .i64 x0_1, .slice ax0_2 x0_2.length cx0_2]) (v := .agg #[.int .i64 x0_0, .int .i64 x0_1, .slice ax0_2 x0_2.length cx0_2]) hs rfl ht3_L0 ty28 rfl rfl rfl ?_
          exact ow_nil ⟨rfl, rfl, Iq, hleq, frL_set rfl rfl, hs⟩
        · rintro L f w _ hL ⟨Iq, hleq, rfl, hs⟩
          replace hx0_2 := hx0_2.mono hleq
          refine ow_v (x_move (v := .int .i64 x1) ht1_L0) rfl ?_
          exact ow_nil ⟨rfl, rfl, Iq, hleq, frL_set rfl rfl, hs⟩
        · rintro L f w _ hL ⟨Iq, hleq, rfl, hs⟩
          replace hx0_2 := hx0_2.mono hleq
          refine ow_v (x_move (v := .int .i64 x2) ht2_L0) rfl ?_
          exact ow_nil ⟨rfl, rfl, Iq, hleq, frL_set rfl rfl, hs⟩
        · rintro L f w _ hL ⟨Iq, hleq, rfl, hs⟩
          replace hx0_2 := hx0_2.mono hleq
          refine ow_v (x_move (v := .int .i64 v0_t_15) rfl) rfl ?_
          exact ow_nil ⟨rfl, rfl, Iq, hleq, frL_set rfl rfl, hs⟩
        · rintro L f w _ hL ⟨Iq, hleq, rfl, hs⟩
          replace hx0_2 := hx0_2.mono hleq
          refine ow_field (b := b1) (o := 0) fl28_0 ht3_L0 ?_
          exact ow_nil ⟨rfl, rfl, Iq, hleq, frL_set rfl rfl, hs⟩
        · rintro L f w ⟨hL4, _⟩ hL ⟨Iq, hleq, rfl, hs⟩
          replace hx0_2 := hx0_2.mono hleq
          refine ow_load (k := 1) (vs := [.int .i64 x0_0]) (v := .int .i64 x0_0) hs rfl (frL_get rfl hL4) ty3 rfl rfl rfl ?_
          exact ow_nil ⟨rfl, rfl, Iq, hleq, frL_set rfl rfl, hs⟩
        · rintro L f w ⟨hL3, hL5, _⟩ hL ⟨Iq, hleq, rfl, hs⟩
          replace hx0_2 := hx0_2.mono hleq
          refine ow_v (x_rem (k := .i64) (a := v0_t_15) (b := x0_0) (frL_get rfl hL3) (frL_get rfl hL5) hg174) rfl ?_
          exact ow_nil ⟨rfl, rfl, Iq, hleq, frL_set rfl rfl, hs⟩
        · rintro L f w _ hL ⟨Iq, hleq, rfl, hs⟩
          replace hx0_2 := hx0_2.mono hleq
          refine ow_v (x_move (v := .int .i64 v0_t_15) rfl) rfl ?_
          exact ow_nil ⟨rfl, rfl, Iq, hleq, frL_set rfl rfl, hs⟩
        · rintro L f w _ hL ⟨Iq, hleq, rfl, hs⟩
          replace hx0_2 := hx0_2.mono hleq
          refine ow_field (b := b1) (o := 0) fl28_0 ht3_L0 ?_
          exact ow_nil ⟨rfl, rfl, Iq, hleq, frL_set rfl rfl, hs⟩
        · rintro L f w ⟨hL8, _⟩ hL ⟨Iq, hleq, rfl, hs⟩
          replace hx0_2 := hx0_2.mono hleq
          refine ow_load (k := 1) (vs := [.int .i64 x0_0]) (v := .int .i64 x0_0) hs rfl (frL_get rfl hL8) ty3 rfl rfl rfl ?_
          exact ow_nil ⟨rfl, rfl, Iq, hleq, frL_set rfl rfl, hs⟩
        · rintro L f w ⟨hL7, hL9, _⟩ hL ⟨Iq, hleq, rfl, hs⟩
          replace hx0_2 := hx0_2.mono hleq
          refine ow_v (x_quo (k := .i64) (a := v0_t_15) (b := x0_0) (frL_get rfl hL7) (frL_get rfl hL9) hg175) rfl ?_
          exact ow_nil ⟨rfl, rfl, Iq, hleq, frL_set rfl rfl, hs⟩
        · rintro L f w ⟨hL0, hL1, hL2, hL6, hL10, _⟩ hL ⟨Iq, hleq, rfl, hs⟩
          replace hx0_2 := hx0_2.mono hleq
          refine ow_call (fi := []) (vs := [.agg #[.int .i64 x0_0, .int .i64 x0_1, .slice ax0_2 x0_2.length cx0_2], .int .i64 x1, .int .i64 x2, .int .i64 (Int.tmod v0_t_15 x0_0), .int .i64 (w64 (Int.tdiv v0_t_15 x0_0))]) (ca := []) rfl ⟨(frL_get rfl hL0), (frL_get rfl hL1), (frL_get rfl hL2), (frL_get rfl hL6), (frL_get rfl hL10), trivial⟩ en22 (f22_ok _ _ _ _ _ _ _ hr177 hs hx0_2) ?_
          clear hs; rintro _ w ⟨J178, hle179, hs, rfl⟩
          replace hx0_2 := hx0_2.mono hle179
          exact ow_nil ⟨rfl, rfl, J178, (hleq.trans hle179), frL_set rfl rfl, hs⟩
        · rintro L f w ⟨hL11, _⟩ hL ⟨Iq, hleq, rfl, hs⟩
          replace hx0_2 := hx0_2.mono hleq
          refine ow_v (x_move (v := .tuple #[.int .i64 r176.1, .int .i64 r176.2]) (frL_get rfl hL11)) rfl ?_
          exact ow_nil ⟨rfl, rfl, Iq, hleq, frL_set rfl rfl, hs⟩
        · rintro L f w ⟨hL12, _⟩ hL ⟨Iq, hleq, rfl, hs⟩
          replace hx0_2 := hx0_2.mono hleq
          refine ow_v (x_extract (v := .int .i64 r176.1) (frL_get rfl hL12) rfl) rfl ?_
          exact ow_nil ⟨rfl, rfl, Iq, hleq, frL_set rfl rfl, hs⟩
        · rintro L f w ⟨hL12, _⟩ hL ⟨Iq, hleq, rfl, hs⟩
          replace hx0_2 := hx0_2.mono hleq
          refine ow_v (x_extract (v := .int .i64 r176.2) (frL_get rfl hL12) rfl) rfl ?_
          exact ow_nil ⟨rfl, rfl, Iq, hleq, frL_set rfl rfl, hs⟩
        · rintro L f w ⟨hL13, hL11, hL0, hL1, hL2, hL3, hL4, hL5, hL6, hL7, hL8, hL9, hL10, _, hL12, _, _⟩ hL ⟨Iq, hleq, rfl, hs⟩
          replace hx0_2 := hx0_2.mono hleq
          refine ow_v (x_assign (v := .int .i64 r176.1) (frL_get rfl hL13)) rfl ?_
          exact ow_nil ⟨rfl, rfl, Iq, hleq, frL_set rfl rfl, hs⟩
        · rintro L f w ⟨hL14, hL15, hL0, hL1, hL2, hL3, hL4, hL5, hL6, hL7, hL8, hL9, hL10, hL11, hL12, hL13, _, _, _⟩ hL ⟨Iq, hleq, rfl, hs⟩
          replace hx0_2 := hx0_2.mono hleq
          refine ow_v (x_assign (v := .int .i64 r176.2) (frL_get rfl hL14)) rfl ?_
          exact ow_nil ⟨rfl, rfl, Iq, hleq, frL_set rfl rfl, hs⟩
        rintro L f w hall ⟨I181, hle180, rfl, hs⟩
        rw [frL_tt _ rfl hall]
        replace hx0_2 := hx0_2.mono hle180
        refine seqK_n ?_
        refine cw_region ?_
        refine ow_v (x_move (v := .slice a_o_nt_7 v0_o_nt_7.length c_o_nt_7) ht7_L0) rfl ?_
        refine ow_v (x_move (v := .int .i64 r176.1) rfl) rfl ?_
        refine ow_v (x_move (v := .int .i64 r176.2) rfl) rfl ?_
        refine ow_v (x_move (v := .int .i64 (at' x0_2 v0_t_15)) rfl) rfl ?_
        refine ow_buildA (vp := [(0, .int .i64 r176.1), (1, .int .i64 r176.2), (2, .int .i64 (at' x0_2 v0_t_15))]) (cs := [.int .i64 r176.1, .int .i64 r176.2, .int .i64 (at' x0_2 v0_t_15)]) ar66 ty3 ty66 ⟨rfl, rfl, rfl, rfl, rfl, rfl, trivial⟩ rfl ?_
        refine ow_buildSlice (vp := [(0, .agg #[.int .i64 r176.1, .int .i64 r176.2, .int .i64 (at' x0_2 v0_t_15)])]) (cs := [.int .i64 r176.1, .int .i64 r176.2, .int .i64 (at' x0_2 v0_t_15)]) hs sl51 ty66 rfl ⟨rfl, rfl, trivial⟩ (by decide) rfl (by decide) ?_
        clear hs; intro a184 J182 w hle183 hs hR185
        replace hx0_2 := hx0_2.mono hle183
        replace hR185 : Rs J182 3 a184 [(r176.1, r176.2, (at' x0_2 v0_t_15))].length 1 ([(r176.1, r176.2, (at' x0_2 v0_t_15))].flatMap enc66) := hR185
        have hg186 := (ite_some hm).1
        replace hm := (ite_some hm).2
        refine ow_appendT (k := 0) (enc := enc66) (X := v0_o_nt_7) (Y := [(r176.1, r176.2, (at' x0_2 v0_t_15))]) hs rfl sl51 ty66 el66 rfl rfl rfl hR185 (fun _ => rfl) hg186 (by decide) ?_
        clear hs; intro a187 c188 w hs
        refine ow_v (x_assign (v := .slice a187 ((v0_o_nt_7 ++ [(r176.1, r176.2, (at' x0_2 v0_t_15))]).length) c188) rfl) rfl ?_
        refine ow_nil ?_
        refine blockK_n ?_
        refine seqK_n ?_
        refine cw_region ?_
        refine ow_v (x_add (k := .i64) (a := v0_t_15) (b := 1) ht15_L0 rfl) rfl ?_
        refine ow_v (x_move (v := .int .i64 (w64 (v0_t_15 + 1))) rfl) rfl ?_
        refine ow_nil ?_
        exact loopK_n ⟨k, Nat.lt_succ_self k, w64 (v0_t_15 + 1), v0_o_nt_7 ++ [(r176.1, r176.2, (at' x0_2 v0_t_15))], a187, c188, J182, rfl, ((hle170.trans hle180).trans hle183), hm, hs, ht1_L0, ht2_L0, ht3_L0, ht6_L0, rfl, ht13_L0, ht14_L0, rfl⟩
      · rw [if_neg hc173] at hm
        refine cw_if_f rfl (decide_eq_false hc173) ?_
        refine cw_skip ?_
        refine blockK_n ?_
        refine seqK_n ?_
        refine cw_region ?_
        refine ow_v (x_add (k := .i64) (a := v0_t_15) (b := 1) ht15_L0 rfl) rfl ?_
        refine ow_v (x_move (v := .int .i64 (w64 (v0_t_15 + 1))) rfl) rfl ?_
        refine ow_nil ?_
        exact loopK_n ⟨k, Nat.lt_succ_self k, w64 (v0_t_15 + 1), v0_o_nt_7, a_o_nt_7, c_o_nt_7, I169, rfl, hle170, hm, hs, ht1_L0, ht2_L0, ht3_L0, ht6_L0, ht7_L0, ht13_L0, ht14_L0, rfl⟩
    · rw [if_neg hc171] at hm
      refine cw_if_f rfl (decide_eq_false hc171) ?_
      refine cw_exit ?_
      refine seqK_x ?_
      refine loopK_x ?_
      refine blockK_hit ?_
      obtain rfl := Option.some.inj hm
      refine joinK_n ⟨a_o_nt_7, c_o_nt_7, I169, rfl, hle170, hs, ht6_L0, ht7_L0⟩
  · clear hm hs
    rintro f ds w ⟨a_o_nt_7, c_o_nt_7, I132, rfl, hle189, hs, ht6_o130, ht7_o130⟩
    replace hm := hq131
    replace hx0_2 := hx0_2.mono hle189
    refine cw_seq ?_
    refine cw_region ?_
    refine ow_v (x_move (v := .slice a_o_nt_7 o130.length c_o_nt_7) ht7_o130) rfl ?_
    refine ow_v (x_assign (v := .slice a_o_nt_7 o130.length c_o_nt_7) rfl) rfl ?_
    refine ow_nil ?_
    refine seqK_n ?_
    refine cw_ret ?_
    refine ret_ok (rs := [.tmp 6]) (vs := [.slice a_o_nt_7 o130.length c_o_nt_7]) (.inr rfl) rfl ⟨rfl, trivial⟩ ?_
    obtain rfl := Option.some.inj hm
    obtain ⟨J191, hle192, hR190, hs⟩ := hs.freezeO
    replace hx0_2 := hx0_2.mono hle192
    replace hs := hs.erase 0
    exact ⟨J191, a_o_nt_7, c_o_nt_7, (hle189.trans hle192), hs, rfl, hR190⟩

-- f16 cmp.Or[int]
def f16_l0 (x0 : List Int) : Nat → Int → Option (Sum Unit Int)
  | 0, _ => none
  | k + 1, v0_t_8 => (if v0_t_8 < (x0.length : Int) then (if 0 ≤ v0_t_8 ∧ v0_t_8 < (x0.length : Int) then (if ¬ ((at' x0 v0_t_8) = 0) then some (Sum.inr (at' x0 v0_t_8)) else (f16_l0 x0 k (w64 (v0_t_8 + 1)))) else none) else some (Sum.inl ()))
def f16_m (x0 : List Int) : Option Int :=
  (lb (S := Unit) (f16_l0 x0 FUEL 0) id (fun s11 => some 0))
theorem f16_ok (x0 : List Int) {r : Int} (hm : f16_m x0 = some r) {ax0 : Option Addr} {cx0 : Nat} {I : Im} {F : List HP} {w : World} (hs : Sat I (F) w) (hx0 : Rs I 1 ax0 x0.length cx0 (x0.flatMap e64)) :
    CV P 16 [.slice ax0 x0.length cx0] w fun v w' => ∃ (J : Im), Im.le I J ∧ Sat J (F) w' ∧ v = .int .i64 r := by
  unfold f16_m at hm
  refine cv_of (n := 18) Go.Proofs.Try.func16 rfl rfl (Nat.le_of_ble_eq_true rfl) ?_
  refine cw_seq ?_
  refine cw_region ?_
  refine ow_v (x_assign (v := .int .i64 0) rfl) rfl ?_
  refine ow_nil ?_
  refine seqK_n ?_
  refine cw_seq ?_
  refine cw_region ?_
  refine ow_v (x_assign (v := .int .i64 0) rfl) rfl ?_
  refine ow_nil ?_
  refine seqK_n ?_
  obtain ⟨o10, hm2, hq12⟩ := lb_some hm
  replace hm := hm2; clear hm2
  refine cw_join (fun f ds w => ∃ (s11 : Unit) (I13 : Im), ds = [] ∧ Im.le I I13 ∧ o10 = Sum.inl s11 ∧ Sat I13 (F) w ∧ f 2 = .int .i64 0 ∧ f 3 = .int .i64 0) ?_ ?_
  · skip
    refine cw_seq ?_
    refine cw_region ?_
    refine ow_v (x_move (v := .slice ax0 x0.length cx0) rfl) rfl ?_
    refine ow_v (x_len sl24 rfl) rfl ?_
    refine ow_v (x_move (v := .int .i64 0) rfl) rfl ?_
    refine ow_nil ?_
    refine seqK_n ?_
    refine cw_block ?_
    refine cw_loop (S := fun k f ds w => ∃ (v0_t_8 : Int), ∃ (I20 : Im), ds = [] ∧ Im.le I I20 ∧ f16_l0 x0 k v0_t_8 = some o10 ∧ Sat I20 (F) w ∧ f 2 = .int .i64 0 ∧ f 3 = .int .i64 0 ∧ f 6 = .slice ax0 x0.length cx0 ∧ f 7 = .int .i64 (x0.length : Int) ∧ f 8 = .int .i64 v0_t_8) ?_ (k := FUEL) ⟨0, I, rfl, Im.le.refl _, hm, hs, rfl, rfl, rfl, rfl, rfl⟩
    clear hm hs
    rintro k f ds w ⟨v0_t_8, I20, rfl, hle21, hm, hs, ht2_L0, ht3_L0, ht6_L0, ht7_L0, ht8_L0⟩
    replace hx0 := hx0.mono hle21
    rcases k with _ | k
    · unfold f16_l0 at hm; cases hm
    unfold f16_l0 at hm
    refine cw_seq ?_
    refine cw_region ?_
    refine ow_v (x_lss (k := .i64) (a := v0_t_8) (b := (x0.length : Int)) ht8_L0 ht7_L0) rfl ?_
    refine ow_nil ?_
    refine seqK_n ?_
    refine cw_seq ?_
    by_cases hc22 : v0_t_8 < (x0.length : Int)
    · rw [if_pos hc22] at hm
      refine cw_if_t rfl (decide_eq_true hc22) ?_
      refine cw_skip ?_
      refine seqK_n ?_
      refine cw_seq ?_
      refine cw_block ?_
      refine cw_seq ?_
      refine cw_region ?_
      have hg23 := (ite_some hm).1
      replace hm := (ite_some hm).2
      refine ow_index (i := v0_t_8) sl24 ty3 ht6_L0 ht8_L0 hg23.1 hg23.2 (Rs.some hx0 (by have := hg23; omega)) ?_
      refine ow_loadR (p := v0_t_8.toNat * 1) (vs := [.int .i64 (at' x0 v0_t_8)]) (v := .int .i64 (at' x0 v0_t_8)) hs hx0 rfl ty3 (flat_at (enc := e64) (sz := 1) (fun _ => rfl) x0 v0_t_8 hg23.1 hg23.2 0 1 (by decide)) rfl rfl ?_
      refine ow_v (x_assign (v := .int .i64 (at' x0 v0_t_8)) rfl) rfl ?_
      refine ow_nil ?_
      refine seqK_n ?_
      refine cw_seq ?_
      refine cw_region ?_
      refine ow_v (x_move (v := .int .i64 (at' x0 v0_t_8)) rfl) rfl ?_
      refine ow_v (x_move (v := .int .i64 0) ht3_L0) rfl ?_
      refine ow_v (x_neqD (k := .i64) (a := (at' x0 v0_t_8)) (b := 0) rfl rfl) rfl ?_
      refine ow_nil ?_
      refine seqK_n ?_
      by_cases hc24 : ¬ ((at' x0 v0_t_8) = 0)
      · rw [if_pos hc24] at hm
        refine cw_if_t rfl (decide_eq_true hc24) ?_
        refine cw_seq ?_
        refine cw_region ?_
        refine ow_v (x_move (v := .int .i64 (at' x0 v0_t_8)) rfl) rfl ?_
        refine ow_v (x_assign (v := .int .i64 (at' x0 v0_t_8)) rfl) rfl ?_
        refine ow_nil ?_
        refine seqK_n ?_
        refine cw_ret ?_
        refine blockK_r ?_
        refine seqK_r ?_
        refine loopK_r ?_
        refine blockK_r ?_
        refine joinK_r ?_
        refine ret_ok (rs := [.tmp 2]) (vs := [.int .i64 (at' x0 v0_t_8)]) (.inr rfl) rfl ⟨rfl, trivial⟩ ?_
        replace hm := lret hm hq12
        obtain rfl := Option.some.inj hm
        exact ⟨I20, hle21, hs, rfl⟩
      · rw [if_neg hc24] at hm
        refine cw_if_f rfl (decide_eq_false hc24) ?_
        refine cw_skip ?_
        refine blockK_n ?_
        refine seqK_n ?_
        refine cw_region ?_
        refine ow_v (x_add (k := .i64) (a := v0_t_8) (b := 1) ht8_L0 rfl) rfl ?_
        refine ow_v (x_move (v := .int .i64 (w64 (v0_t_8 + 1))) rfl) rfl ?_
        refine ow_nil ?_
        exact loopK_n ⟨k, Nat.lt_succ_self k, w64 (v0_t_8 + 1), I20, rfl, hle21, hm, hs, ht2_L0, ht3_L0, ht6_L0, ht7_L0, rfl⟩
    · rw [if_neg hc22] at hm
      refine cw_if_f rfl (decide_eq_false hc22) ?_
      refine cw_exit ?_
      refine seqK_x ?_
      refine loopK_x ?_
      refine blockK_hit ?_
      obtain rfl := Option.some.inj hm
      refine joinK_n ⟨(), I20, rfl, hle21, rfl, hs, ht2_L0, ht3_L0⟩
  · clear hm hs
    rintro f ds w ⟨s11, I13, rfl, hle25, rfl, hs, ht2_o10, ht3_o10⟩
    replace hm := lexit rfl hq12
    replace hx0 := hx0.mono hle25
    refine cw_seq ?_
    refine cw_region ?_
    refine ow_v (x_move (v := .int .i64 0) ht3_o10) rfl ?_
    refine ow_v (x_assign (v := .int .i64 0) rfl) rfl ?_
    refine ow_nil ?_
    refine seqK_n ?_
    refine cw_ret ?_
    refine ret_ok (rs := [.tmp 2]) (vs := [.int .i64 0]) (.inr rfl) rfl ⟨rfl, trivial⟩ ?_
    obtain rfl := Option.some.inj hm
    exact ⟨I13, hle25, hs, rfl⟩

-- f15 sightbench/find.Find$2
def f15_m (x0_0 : Int) (x0_1 : Int) (x0_2 : Int) (x0_3 : Int) (x0_4 : Int) (x1_0 : Int) (x1_1 : Int) (x1_2 : Int) (x1_3 : Int) (x1_4 : Int) : Option Int :=
  ((f17_m x0_1 x1_1).bind fun r5 => ((f17_m x0_0 x1_0).bind fun r9 => ((f16_m [r5, r9]).bind fun r17 => some r17)))
theorem f15_ok (x0_0 : Int) (x0_1 : Int) (x0_2 : Int) (x0_3 : Int) (x0_4 : Int) (x1_0 : Int) (x1_1 : Int) (x1_2 : Int) (x1_3 : Int) (x1_4 : Int) {r : Int} (hm : f15_m x0_0 x0_1 x0_2 x0_3 x0_4 x1_0 x1_1 x1_2 x1_3 x1_4 = some r)  {I : Im} {F : List HP} {w : World} (hs : Sat I (F) w)  :
    CV P 15 [.agg #[.int .i64 x0_0, .int .i64 x0_1, .int .i64 x0_2, .int .i64 x0_3, .int .i64 x0_4], .agg #[.int .i64 x1_0, .int .i64 x1_1, .int .i64 x1_2, .int .i64 x1_3, .int .i64 x1_4]] w fun v w' => ∃ (J : Im), Im.le I J ∧ Sat J (F) w' ∧ v = .int .i64 r := by
  unfold f15_m at hm
  refine cv_of (n := 21) Go.Proofs.Try.func15 rfl rfl (Nat.le_of_ble_eq_true rfl) ?_
  refine cw_seq ?_
  refine cw_region ?_
  refine ow_box (v := .agg #[.int .i64 x0_0, .int .i64 x0_1, .int .i64 x0_2, .int .i64 x0_3, .int .i64 x0_4]) (cs := [.int .i64 x0_0, .int .i64 x0_1, .int .i64 x0_2, .int .i64 x0_3, .int .i64 x0_4]) hs rfl rfl ?_
  clear hs; intro b1 w hs
  refine ow_box (v := .agg #[.int .i64 x1_0, .int .i64 x1_1, .int .i64 x1_2, .int .i64 x1_3, .int .i64 x1_4]) (cs := [.int .i64 x1_0, .int .i64 x1_1, .int .i64 x1_2, .int .i64 x1_3, .int .i64 x1_4]) hs rfl rfl ?_
  clear hs; intro b3 w hs
  refine ow_v (x_assign (v := .int .i64 0) rfl) rfl ?_
  refine ow_nil ?_
  refine seqK_n ?_
  refine cw_seq ?_
  obtain ⟨r5, hr6, hm2⟩ := bind_some hm
  replace hm := hm2; clear hm2
  obtain ⟨r9, hr10, hm2⟩ := bind_some hm
  replace hm := hm2; clear hm2
  obtain ⟨r17, hr18, hm2⟩ := bind_some hm
  replace hm := hm2; clear hm2
  refine cw_drawF mixed rfl (fun f0 L f w => ∃ (a15 : Option Addr) (Iq : Im), Im.le I Iq ∧ f = frL [(5, 0, .pointer (some ⟨b1, 0, none⟩)), (6, 1, .pointer (some ⟨b1, 1, none⟩)), (7, 2, .int .i64 x0_1), (8, 3, .pointer (some ⟨b3, 0, none⟩)), (9, 4, .pointer (some ⟨b3, 1, none⟩)), (10, 5, .int .i64 x1_1), (11, 6, .int .i64 r5), (12, 7, .pointer (some ⟨b1, 0, none⟩)), (13, 8, .pointer (some ⟨b1, 0, none⟩)), (14, 9, .int .i64 x0_0), (15, 10, .pointer (some ⟨b3, 0, none⟩)), (16, 11, .pointer (some ⟨b3, 0, none⟩)), (17, 12, .int .i64 x1_0), (18, 13, .int .i64 r9), (19, 14, .slice a15 ([r5, r9].length) 2), (20, 15, .int .i64 r17), (4, 16, .int .i64 r17)] L f0 ∧ Sat Iq (blk b3 40 [.int .i64 x1_0, .int .i64 x1_1, .int .i64 x1_2, .int .i64 x1_3, .int .i64 x1_4] :: blk b1 40 [.int .i64 x0_0, .int .i64 x0_1, .int .i64 x0_2, .int .i64 x0_3, .int .i64 x0_4] :: F) w ∧ (L 14 = true → Rs Iq 1 a15 [r5, r9].length 2 ([r5, r9].flatMap e64))) ⟨none, I, Im.le.refl _, (frL_ff _).symm, hs.drew, (fun h => by cases h)⟩ ⟨?_, ?_, ?_, ?_, ?_, ?_, ?_, ?_, ?_, ?_, ?_, ?_, ?_, ?_, ?_, ?_, ?_, trivial⟩ ?_
  all_goals clear hs
  · rintro L f w _ hL ⟨a15, Iq, hleq, rfl, hs, khR16⟩
    refine ow_field (b := b1) (o := 0) fl40_0 rfl ?_
    exact ow_nil ⟨rfl, rfl, a15, Iq, hleq, frL_set rfl rfl, hs, (fun h => khR16 h)⟩
  · rintro L f w ⟨hL0, _⟩ hL ⟨a15, Iq, hleq, rfl, hs, khR16⟩
    refine ow_field (b := b1) (o := 0) fl38_1 (frL_get rfl hL0) ?_
    exact ow_nil ⟨rfl, rfl, a15, Iq, hleq, frL_set rfl rfl, hs, (fun h => khR16 h)⟩
  · rintro L f w ⟨hL1, _⟩ hL ⟨a15, Iq, hleq, rfl, hs, khR16⟩
    refine ow_load (k := 1) (vs := [.int .i64 x0_1]) (v := .int .i64 x0_1) hs rfl (frL_get rfl hL1) ty3 rfl rfl rfl ?_
    exact ow_nil ⟨rfl, rfl, a15, Iq, hleq, frL_set rfl rfl, hs, (fun h => khR16 h)⟩
  · rintro L f w _ hL ⟨a15, Iq, hleq, rfl, hs, khR16⟩
    refine ow_field (b := b3) (o := 0) fl40_0 rfl ?_
    exact ow_nil ⟨rfl, rfl, a15, Iq, hleq, frL_set rfl rfl, hs, (fun h => khR16 h)⟩
  · rintro L f w ⟨hL3, _⟩ hL ⟨a15, Iq, hleq, rfl, hs, khR16⟩
    refine ow_field (b := b3) (o := 0) fl38_1 (frL_get rfl hL3) ?_
    exact ow_nil ⟨rfl, rfl, a15, Iq, hleq, frL_set rfl rfl, hs, (fun h => khR16 h)⟩
  · rintro L f w ⟨hL4, _⟩ hL ⟨a15, Iq, hleq, rfl, hs, khR16⟩
    refine ow_load (k := 0) (vs := [.int .i64 x1_1]) (v := .int .i64 x1_1) hs rfl (frL_get rfl hL4) ty3 rfl rfl rfl ?_
    exact ow_nil ⟨rfl, rfl, a15, Iq, hleq, frL_set rfl rfl, hs, (fun h => khR16 h)⟩
  · rintro L f w ⟨hL2, hL5, _⟩ hL ⟨a15, Iq, hleq, rfl, hs, khR16⟩
    refine ow_call (fi := []) (vs := [.int .i64 x0_1, .int .i64 x1_1]) (ca := []) rfl ⟨(frL_get rfl hL2), (frL_get rfl hL5), trivial⟩ en17 (f17_ok _ _ hr6 hs) ?_
    clear hs; rintro _ w ⟨J7, hle8, hs, rfl⟩
    exact ow_nil ⟨rfl, rfl, a15, J7, (hleq.trans hle8), frL_set rfl rfl, hs, (fun h => (khR16 h).mono hle8)⟩
  · rintro L f w _ hL ⟨a15, Iq, hleq, rfl, hs, khR16⟩
    refine ow_field (b := b1) (o := 0) fl40_0 rfl ?_
    exact ow_nil ⟨rfl, rfl, a15, Iq, hleq, frL_set rfl rfl, hs, (fun h => khR16 h)⟩
  · rintro L f w ⟨hL7, _⟩ hL ⟨a15, Iq, hleq, rfl, hs, khR16⟩
    refine ow_field (b := b1) (o := 0) fl38_0 (frL_get rfl hL7) ?_
    exact ow_nil ⟨rfl, rfl, a15, Iq, hleq, frL_set rfl rfl, hs, (fun h => khR16 h)⟩
  · rintro L f w ⟨hL8, _⟩ hL ⟨a15, Iq, hleq, rfl, hs, khR16⟩
    refine ow_load (k := 1) (vs := [.int .i64 x0_0]) (v := .int .i64 x0_0) hs rfl (frL_get rfl hL8) ty3 rfl rfl rfl ?_
    exact ow_nil ⟨rfl, rfl, a15, Iq, hleq, frL_set rfl rfl, hs, (fun h => khR16 h)⟩
  · rintro L f w _ hL ⟨a15, Iq, hleq, rfl, hs, khR16⟩
    refine ow_field (b := b3) (o := 0) fl40_0 rfl ?_
    exact ow_nil ⟨rfl, rfl, a15, Iq, hleq, frL_set rfl rfl, hs, (fun h => khR16 h)⟩
  · rintro L f w ⟨hL10, _⟩ hL ⟨a15, Iq, hleq, rfl, hs, khR16⟩
    refine ow_field (b := b3) (o := 0) fl38_0 (frL_get rfl hL10) ?_
    exact ow_nil ⟨rfl, rfl, a15, Iq, hleq, frL_set rfl rfl, hs, (fun h => khR16 h)⟩
  · rintro L f w ⟨hL11, _⟩ hL ⟨a15, Iq, hleq, rfl, hs, khR16⟩
    refine ow_load (k := 0) (vs := [.int .i64 x1_0]) (v := .int .i64 x1_0) hs rfl (frL_get rfl hL11) ty3 rfl rfl rfl ?_
    exact ow_nil ⟨rfl, rfl, a15, Iq, hleq, frL_set rfl rfl, hs, (fun h => khR16 h)⟩
  · rintro L f w ⟨hL9, hL12, hL6, _⟩ hL ⟨a15, Iq, hleq, rfl, hs, khR16⟩
    refine ow_call (fi := []) (vs := [.int .i64 x0_0, .int .i64 x1_0]) (ca := []) rfl ⟨(frL_get rfl hL9), (frL_get rfl hL12), trivial⟩ en17 (f17_ok _ _ hr10 hs) ?_
    clear hs; rintro _ w ⟨J11, hle12, hs, rfl⟩
    exact ow_nil ⟨rfl, rfl, a15, J11, (hleq.trans hle12), frL_set rfl rfl, hs, (fun h => (khR16 h).mono hle12)⟩
  · rintro L f w ⟨hL6, hL13, _⟩ hL ⟨a15, Iq, hleq, rfl, hs, khR16⟩
    refine ow_buildSlice (vp := [(0, .int .i64 r5), (1, .int .i64 r9)]) (cs := [.int .i64 r5, .int .i64 r9]) hs sl24 ty3 rfl ⟨rfl, (frL_get rfl hL6), rfl, (frL_get rfl hL13), trivial⟩ (by decide) rfl (by decide) ?_
    clear hs; intro a15 J13 w hle14 hs hR16
    replace hR16 : Rs J13 1 a15 [r5, r9].length 2 ([r5, r9].flatMap e64) := hR16
    exact ow_nil ⟨rfl, rfl, a15, J13, (hleq.trans hle14), (Eq.trans (frL_setG (i := 14) rfl rfl) (rfl)), hs, (fun _ => hR16)⟩
  · rintro L f w ⟨hL14, hL13, _⟩ hL ⟨a15, Iq, hleq, rfl, hs, khR16⟩
    have hR16 := khR16 hL14
    refine ow_call (fi := []) (vs := [.slice a15 ([r5, r9].length) 2]) (ca := []) rfl ⟨(frL_get rfl hL14), trivial⟩ en16 (f16_ok _ hr18 hs hR16) ?_
    clear hs; rintro _ w ⟨J19, hle20, hs, rfl⟩
    replace hR16 := hR16.mono hle20
    exact ow_nil ⟨rfl, rfl, a15, J19, (hleq.trans hle20), frL_set rfl rfl, hs, (fun h => (khR16 h).mono hle20)⟩
  · rintro L f w ⟨hL15, _, hL0, hL1, hL2, hL3, hL4, hL5, hL6, hL7, hL8, hL9, hL10, hL11, hL12, hL13, hL14, _, _⟩ hL ⟨a15, Iq, hleq, rfl, hs, khR16⟩
    have hR16 := khR16 hL14
    refine ow_v (x_assign (v := .int .i64 r17) (frL_get rfl hL15)) rfl ?_
    exact ow_nil ⟨rfl, rfl, a15, Iq, hleq, frL_set rfl rfl, hs, (fun h => khR16 h)⟩
  rintro L f w hall ⟨a15, I22, hle21, rfl, hs, hR16⟩
  rw [frL_tt _ rfl hall]
  replace hR16 := hR16 (hall 14 (Nat.le_of_ble_eq_true rfl))
  refine seqK_n ?_
  refine cw_ret ?_
  refine ret_ok (rs := [.tmp 4]) (vs := [.int .i64 r17]) (.inr rfl) rfl ⟨rfl, trivial⟩ ?_
  obtain rfl := Option.some.inj hm
  replace hs := hs.erase 0
  replace hs := hs.erase 0
  exact ⟨I22, hle21, hs, rfl⟩

-- f4 sightbench/sightbenchtop.pictured
def f4_l0 (x0 : Int) (x1 : Int) (x2 : List Int) : Nat → Int → (List Int) → Option (List Int)
  | 0, _, _ => none
  | k + 1, v0_t_8, v0_o_nb_r4_2 => (if v0_t_8 < (w64 (x0 * x1)) then (if 0 < (x2.length : Int) then (if (x2.length : Int) ≠ 0 then (if 0 ≤ (Int.tmod v0_t_8 (x2.length : Int)) ∧ (Int.tmod v0_t_8 (x2.length : Int)) < (x2.length : Int) then (if v0_o_nb_r4_2.length + [w64 ((at' x2 (Int.tmod v0_t_8 (x2.length : Int))))].length ≤ 1099511627776 then (f4_l0 x0 x1 x2 k (w64 (v0_t_8 + 1)) (v0_o_nb_r4_2 ++ [w64 ((at' x2 (Int.tmod v0_t_8 (x2.length : Int))))])) else none) else none) else none) else (if v0_o_nb_r4_2.length + [0].length ≤ 1099511627776 then (f4_l0 x0 x1 x2 k (w64 (v0_t_8 + 1)) (v0_o_nb_r4_2 ++ [0])) else none)) else some v0_o_nb_r4_2)
def f4_m (x0 : Int) (x1 : Int) (x2 : List Int) : Option (Int × Int × List Int) :=
  ((f4_l0 x0 x1 x2 FUEL 0 ([] : List Int)).bind fun (o133 : List Int) => some (x0, x1, o133))
theorem f4_ok (x0 : Int) (x1 : Int) (x2 : List Int) {r : Int × Int × List Int} (hm : f4_m x0 x1 x2 = some r) {ax2 : Option Addr} {cx2 : Nat} {I : Im} {F : List HP} {w : World} (hs : Sat I (F) w) (hx2 : Rs I 1 ax2 x2.length cx2 (x2.flatMap e8)) :
    CV P 4 [.int .i64 x0, .int .i64 x1, .slice ax2 x2.length cx2] w fun v w' => ∃ (J : Im) (a2 : Option Addr) (c2 : Nat), Im.le I J ∧ Sat J (F) w' ∧ v = .agg #[.int .i64 r.1, .int .i64 r.2.1, .slice a2 r.2.2.length c2] ∧ Rs J 1 a2 r.2.2.length c2 (r.2.2.flatMap e64) := by
  unfold f4_m at hm
  refine cv_of (n := 38) Go.Proofs.Try.func4 rfl rfl (Nat.le_of_ble_eq_true rfl) ?_
  refine cw_seq ?_
  refine cw_region ?_
  refine ow_alloc hs ty26 rfl ?_
  clear hs; intro b1 w hs
  refine ow_nil ?_
  refine seqK_n ?_
  refine cw_seq ?_
  refine cw_region ?_
  refine ow_v (x_move (v := .int .i64 x0) rfl) rfl ?_
  refine ow_v (x_move (v := .int .i64 x1) rfl) rfl ?_
  refine ow_build (vp := [(0, .int .i64 x0), (1, .int .i64 x1)]) (cs := [.int .i64 x0, .int .i64 x1, .slice none 0 0]) st26 ty26 ⟨rfl, rfl, rfl, rfl, trivial⟩ rfl ?_
  refine ow_alloc hs ty26 rfl ?_
  clear hs; intro b3 w hs
  refine ow_store (k := 0) (vs := [.int .i64 x0, .int .i64 x1, .slice none 0 0]) (cs' := [.int .i64 x0, .int .i64 x1, .slice none 0 0]) hs rfl rfl rfl ty26 rfl rfl (Nat.le_of_ble_eq_true rfl) rfl rfl ?_
  clear hs; intro w hs
  refine ow_nil ?_
  refine seqK_n ?_
  replace hs := hs.pushNil 3 1
  obtain ⟨o133, hm2, hq134⟩ := bind_some hm
  replace hm := hm2; clear hm2
  refine cw_join (fun f ds w => ∃ (a_o_nb_r4_2 : Option Addr) (c_o_nb_r4_2 : Nat) (I135 : Im), ds = [] ∧ Im.le I I135 ∧ Sat I135 (osl 3 1 a_o_nb_r4_2 o133.length c_o_nb_r4_2 (o133.flatMap e64) :: blk b3 26 [.int .i64 x0, .int .i64 x1, .slice a_o_nb_r4_2 o133.length c_o_nb_r4_2] :: blk b1 26 [.int .i64 0, .int .i64 0, .slice none 0 0] :: F) w ∧ f 6 = .pointer (some ⟨b1, 0, none⟩) ∧ f 7 = .pointer (some ⟨b3, 0, none⟩)) ?_ ?_
  · skip
    refine cw_seq ?_
    refine cw_region ?_
    refine ow_v (x_assign (v := .int .i64 0) rfl) rfl ?_
    refine ow_nil ?_
    refine seqK_n ?_
    refine cw_block ?_
    refine cw_loop (S := fun k f ds w => ∃ (v0_t_8 : Int) (v0_o_nb_r4_2 : List Int), ∃ (a_o_nb_r4_2 : Option Addr) (c_o_nb_r4_2 : Nat) (I172 : Im), ds = [] ∧ Im.le I I172 ∧ f4_l0 x0 x1 x2 k v0_t_8 v0_o_nb_r4_2 = some o133 ∧ Sat I172 (osl 3 1 a_o_nb_r4_2 v0_o_nb_r4_2.length c_o_nb_r4_2 (v0_o_nb_r4_2.flatMap e64) :: blk b3 26 [.int .i64 x0, .int .i64 x1, .slice a_o_nb_r4_2 v0_o_nb_r4_2.length c_o_nb_r4_2] :: blk b1 26 [.int .i64 0, .int .i64 0, .slice none 0 0] :: F) w ∧ f 0 = .int .i64 x0 ∧ f 1 = .int .i64 x1 ∧ f 2 = .slice ax2 x2.length cx2 ∧ f 6 = .pointer (some ⟨b1, 0, none⟩) ∧ f 7 = .pointer (some ⟨b3, 0, none⟩) ∧ f 8 = .int .i64 v0_t_8) ?_ (k := FUEL) ⟨0, ([] : List Int), none, 0, I, rfl, Im.le.refl _, hm, hs, rfl, rfl, rfl, rfl, rfl, rfl⟩
    clear hm hs
    rintro k f ds w ⟨v0_t_8, v0_o_nb_r4_2, a_o_nb_r4_2, c_o_nb_r4_2, I172, rfl, hle173, hm, hs, ht0_L0, ht1_L0, ht2_L0, ht6_L0, ht7_L0, ht8_L0⟩
    replace hx2 := hx2.mono hle173
    rcases k with _ | k
    · unfold f4_l0 at hm; cases hm
    unfold f4_l0 at hm
    refine cw_seq ?_
    refine cw_seq ?_
    refine cw_region ?_
    refine ow_v (x_move (v := .int .i64 v0_t_8) ht8_L0) rfl ?_
    refine ow_v (x_move (v := .int .i64 x0) ht0_L0) rfl ?_
    refine ow_v (x_move (v := .int .i64 x1) ht1_L0) rfl ?_
    refine ow_v (x_mul (k := .i64) (a := x0) (b := x1) rfl rfl) rfl ?_
    refine ow_v (x_lss (k := .i64) (a := v0_t_8) (b := (w64 (x0 * x1))) rfl rfl) rfl ?_
    refine ow_nil ?_
    refine seqK_n ?_
    by_cases hc174 : v0_t_8 < (w64 (x0 * x1))
    · rw [if_pos hc174] at hm
      refine cw_if_t rfl (decide_eq_true hc174) ?_
      refine cw_skip ?_
      refine seqK_n ?_
      refine cw_seq ?_
      refine cw_block ?_
      refine cw_seq ?_
      refine cw_region ?_
      refine ow_v (x_assign (v := .int .i64 0) rfl) rfl ?_
      refine ow_nil ?_
      refine seqK_n ?_
      refine cw_seq ?_
      refine cw_seq ?_
      refine cw_region ?_
      refine ow_v (x_move (v := .slice ax2 x2.length cx2) ht2_L0) rfl ?_
      refine ow_v (x_len sl22 rfl) rfl ?_
      refine ow_v (x_gtr (k := .i64) (a := (x2.length : Int)) (b := 0) rfl rfl) rfl ?_
      refine ow_nil ?_
      refine seqK_n ?_
      by_cases hc175 : 0 < (x2.length : Int)
      · rw [if_pos hc175] at hm
        refine cw_if_t rfl (decide_eq_true hc175) ?_
        refine cw_region ?_
        refine ow_v (x_move (v := .slice ax2 x2.length cx2) ht2_L0) rfl ?_
        refine ow_v (x_move (v := .int .i64 v0_t_8) ht8_L0) rfl ?_
        refine ow_v (x_move (v := .slice ax2 x2.length cx2) ht2_L0) rfl ?_
        refine ow_v (x_len sl22 rfl) rfl ?_
        have hg176 := (ite_some hm).1
        replace hm := (ite_some hm).2
        refine ow_v (x_rem (k := .i64) (a := v0_t_8) (b := (x2.length : Int)) rfl rfl hg176) rfl ?_
        have hg177 := (ite_some hm).1
        replace hm := (ite_some hm).2
        refine ow_index (i := (Int.tmod v0_t_8 (x2.length : Int))) sl22 ty5 rfl rfl hg177.1 hg177.2 (Rs.some hx2 (by have := hg177; omega)) ?_
        refine ow_loadR (p := (Int.tmod v0_t_8 (x2.length : Int)).toNat * 1) (vs := [.int .u8 (at' x2 (Int.tmod v0_t_8 (x2.length : Int)))]) (v := .int .u8 (at' x2 (Int.tmod v0_t_8 (x2.length : Int)))) hs hx2 rfl ty5 (flat_at (enc := e8) (sz := 1) (fun _ => rfl) x2 (Int.tmod v0_t_8 (x2.length : Int)) hg177.1 hg177.2 0 1 (by decide)) rfl rfl ?_
        refine ow_v (x_conv (a := (at' x2 (Int.tmod v0_t_8 (x2.length : Int)))) it5 it3 rfl) rfl ?_
        refine ow_v (x_assign (v := .int .i64 (w64 ((at' x2 (Int.tmod v0_t_8 (x2.length : Int)))))) rfl) rfl ?_
        refine ow_nil ?_
        refine seqK_n ?_
        refine cw_region ?_
        refine ow_field (b := b3) (o := 0) fl26_2 ht7_L0 ?_
        refine ow_load (k := 1) (vs := [.slice a_o_nb_r4_2 v0_o_nb_r4_2.length c_o_nb_r4_2]) (v := .slice a_o_nb_r4_2 v0_o_nb_r4_2.length c_o_nb_r4_2) hs rfl rfl ty24 rfl rfl rfl ?_
        refine ow_v (x_move (v := .int .i64 (w64 ((at' x2 (Int.tmod v0_t_8 (x2.length : Int)))))) rfl) rfl ?_
        refine ow_buildSlice (vp := [(0, .int .i64 (w64 ((at' x2 (Int.tmod v0_t_8 (x2.length : Int))))))]) (cs := [.int .i64 (w64 ((at' x2 (Int.tmod v0_t_8 (x2.length : Int)))))]) hs sl24 ty3 rfl ⟨rfl, rfl, trivial⟩ (by decide) rfl (by decide) ?_
        clear hs; intro a180 J178 w hle179 hs hR181
        replace hx2 := hx2.mono hle179
        replace hR181 : Rs J178 1 a180 [w64 ((at' x2 (Int.tmod v0_t_8 (x2.length : Int))))].length 1 ([w64 ((at' x2 (Int.tmod v0_t_8 (x2.length : Int))))].flatMap e64) := hR181
        have hg182 := (ite_some hm).1
        replace hm := (ite_some hm).2
        refine ow_appendT (k := 0) (enc := e64) (X := v0_o_nb_r4_2) (Y := [w64 ((at' x2 (Int.tmod v0_t_8 (x2.length : Int))))]) hs rfl sl24 ty3 el3 rfl rfl rfl hR181 (fun _ => rfl) hg182 (by decide) ?_
        clear hs; intro a183 c184 w hs
        refine ow_field (b := b3) (o := 0) fl26_2 ht7_L0 ?_
        refine ow_store (k := 1) (vs := [.slice a183 ((v0_o_nb_r4_2 ++ [w64 ((at' x2 (Int.tmod v0_t_8 (x2.length : Int))))]).length) c184]) (cs' := [.int .i64 x0, .int .i64 x1, .slice a183 ((v0_o_nb_r4_2 ++ [w64 ((at' x2 (Int.tmod v0_t_8 (x2.length : Int))))]).length) c184]) hs rfl rfl rfl ty24 rfl rfl (Nat.le_of_ble_eq_true rfl) rfl rfl ?_
        clear hs; intro w hs
        refine ow_nil ?_
        refine blockK_n ?_
        refine seqK_n ?_
        refine cw_region ?_
        refine ow_v (x_move (v := .int .i64 v0_t_8) ht8_L0) rfl ?_
        refine ow_v (x_add (k := .i64) (a := v0_t_8) (b := 1) rfl rfl) rfl ?_
        refine ow_v (x_assign (v := .int .i64 (w64 (v0_t_8 + 1))) rfl) rfl ?_
        refine ow_nil ?_
        exact loopK_n ⟨k, Nat.lt_succ_self k, w64 (v0_t_8 + 1), v0_o_nb_r4_2 ++ [w64 ((at' x2 (Int.tmod v0_t_8 (x2.length : Int))))], a183, c184, J178, rfl, (hle173.trans hle179), hm, hs, ht0_L0, ht1_L0, ht2_L0, ht6_L0, ht7_L0, rfl⟩
      · rw [if_neg hc175] at hm
        refine cw_if_f rfl (decide_eq_false hc175) ?_
        refine cw_skip ?_
        refine seqK_n ?_
        refine cw_region ?_
        refine ow_field (b := b3) (o := 0) fl26_2 ht7_L0 ?_
        refine ow_load (k := 1) (vs := [.slice a_o_nb_r4_2 v0_o_nb_r4_2.length c_o_nb_r4_2]) (v := .slice a_o_nb_r4_2 v0_o_nb_r4_2.length c_o_nb_r4_2) hs rfl rfl ty24 rfl rfl rfl ?_
        refine ow_v (x_move (v := .int .i64 0) rfl) rfl ?_
        refine ow_buildSlice (vp := [(0, .int .i64 0)]) (cs := [.int .i64 0]) hs sl24 ty3 rfl ⟨rfl, rfl, trivial⟩ (by decide) rfl (by decide) ?_
        clear hs; intro a187 J185 w hle186 hs hR188
        replace hx2 := hx2.mono hle186
        replace hR188 : Rs J185 1 a187 [0].length 1 ([0].flatMap e64) := hR188
        have hg189 := (ite_some hm).1
        replace hm := (ite_some hm).2
        refine ow_appendT (k := 0) (enc := e64) (X := v0_o_nb_r4_2) (Y := [0]) hs rfl sl24 ty3 el3 rfl rfl rfl hR188 (fun _ => rfl) hg189 (by decide) ?_
        clear hs; intro a190 c191 w hs
        refine ow_field (b := b3) (o := 0) fl26_2 ht7_L0 ?_
        refine ow_store (k := 1) (vs := [.slice a190 ((v0_o_nb_r4_2 ++ [0]).length) c191]) (cs' := [.int .i64 x0, .int .i64 x1, .slice a190 ((v0_o_nb_r4_2 ++ [0]).length) c191]) hs rfl rfl rfl ty24 rfl rfl (Nat.le_of_ble_eq_true rfl) rfl rfl ?_
        clear hs; intro w hs
        refine ow_nil ?_
        refine blockK_n ?_
        refine seqK_n ?_
        refine cw_region ?_
        refine ow_v (x_move (v := .int .i64 v0_t_8) ht8_L0) rfl ?_
        refine ow_v (x_add (k := .i64) (a := v0_t_8) (b := 1) rfl rfl) rfl ?_
        refine ow_v (x_assign (v := .int .i64 (w64 (v0_t_8 + 1))) rfl) rfl ?_
        refine ow_nil ?_
        exact loopK_n ⟨k, Nat.lt_succ_self k, w64 (v0_t_8 + 1), v0_o_nb_r4_2 ++ [0], a190, c191, J185, rfl, (hle173.trans hle186), hm, hs, ht0_L0, ht1_L0, ht2_L0, ht6_L0, ht7_L0, rfl⟩
    · rw [if_neg hc174] at hm
      refine cw_if_f rfl (decide_eq_false hc174) ?_
      refine cw_exit ?_
      refine seqK_x ?_
      refine loopK_x ?_
      refine blockK_hit ?_
      obtain rfl := Option.some.inj hm
      refine joinK_n ⟨a_o_nb_r4_2, c_o_nb_r4_2, I172, rfl, hle173, hs, ht6_L0, ht7_L0⟩
  · clear hm hs
    rintro f ds w ⟨a_o_nb_r4_2, c_o_nb_r4_2, I135, rfl, hle192, hs, ht6_o133, ht7_o133⟩
    replace hm := hq134
    replace hx2 := hx2.mono hle192
    refine cw_seq ?_
    refine cw_region ?_
    refine ow_load (k := 1) (vs := [.int .i64 x0, .int .i64 x1, .slice a_o_nb_r4_2 o133.length c_o_nb_r4_2]) (v := .agg #[.int .i64 x0, .int .i64 x1, .slice a_o_nb_r4_2 o133.length c_o_nb_r4_2]) hs rfl ht7_o133 ty26 rfl rfl rfl ?_
    refine ow_store (k := 2) (vs := [.int .i64 x0, .int .i64 x1, .slice a_o_nb_r4_2 o133.length c_o_nb_r4_2]) (cs' := [.int .i64 x0, .int .i64 x1, .slice a_o_nb_r4_2 o133.length c_o_nb_r4_2]) hs rfl ht6_o133 rfl ty26 rfl rfl (Nat.le_of_ble_eq_true rfl) rfl rfl ?_
    clear hs; intro w hs
    refine ow_nil ?_
    refine seqK_n ?_
    refine cw_ret ?_
    refine ret_ok (rs := [.cell 6 26]) (vs := [.agg #[.int .i64 x0, .int .i64 x1, .slice a_o_nb_r4_2 o133.length c_o_nb_r4_2]]) (.inr rfl) rfl ⟨⟨_, true, _, [.int .i64 x0, .int .i64 x1, .slice a_o_nb_r4_2 o133.length c_o_nb_r4_2], ht6_o133, ty26, CA_blk (off := 0) (m := 3) (hs.blk (k := 2) rfl), rfl, rfl⟩, trivial⟩ ?_
    obtain rfl := Option.some.inj hm
    obtain ⟨J194, hle195, hR193, hs⟩ := hs.freezeO
    replace hx2 := hx2.mono hle195
    replace hs := hs.erase 0
    replace hs := hs.erase 0
    exact ⟨J194, a_o_nb_r4_2, c_o_nb_r4_2, (hle192.trans hle195), hs, rfl, hR193⟩

-- f8 sightbench/find.check
def f8_m (x0_0 : Int) (x0_1 : Int) (x0_2 : List Int) (x1_0 : Int) (x1_1 : Int) (x1_2 : List Int) : Option Int :=
  ((f19_m x0_0 x0_1 x0_2).bind fun r5 => (if (!r5) = true then some 20 else ((f20_m x1_0 x1_1 x1_2).bind fun r10 => (if (!r10) = true then some 70 else some 0))))
theorem f8_ok (x0_0 : Int) (x0_1 : Int) (x0_2 : List Int) (x1_0 : Int) (x1_1 : Int) (x1_2 : List Int) {r : Int} (hm : f8_m x0_0 x0_1 x0_2 x1_0 x1_1 x1_2 = some r) {ax0_2 : Option Addr} {cx0_2 : Nat} {ax1_2 : Option Addr} {cx1_2 : Nat} {I : Im} {F : List HP} {w : World} (hs : Sat I (F) w) (hx0_2 : Rs I 1 ax0_2 x0_2.length cx0_2 (x0_2.flatMap e64)) (hx1_2 : Rs I 1 ax1_2 x1_2.length cx1_2 (x1_2.flatMap e64)) :
    CV P 8 [.agg #[.int .i64 x0_0, .int .i64 x0_1, .slice ax0_2 x0_2.length cx0_2], .agg #[.int .i64 x1_0, .int .i64 x1_1, .slice ax1_2 x1_2.length cx1_2]] w fun v w' => ∃ (J : Im), Im.le I J ∧ Sat J (F) w' ∧ v = .int .i64 r := by
  unfold f8_m at hm
  refine cv_of (n := 13) Go.Proofs.Try.func8 rfl rfl (Nat.le_of_ble_eq_true rfl) ?_
  refine cw_seq ?_
  refine cw_region ?_
  refine ow_box (v := .agg #[.int .i64 x0_0, .int .i64 x0_1, .slice ax0_2 x0_2.length cx0_2]) (cs := [.int .i64 x0_0, .int .i64 x0_1, .slice ax0_2 x0_2.length cx0_2]) hs rfl rfl ?_
  clear hs; intro b1 w hs
  refine ow_box (v := .agg #[.int .i64 x1_0, .int .i64 x1_1, .slice ax1_2 x1_2.length cx1_2]) (cs := [.int .i64 x1_0, .int .i64 x1_1, .slice ax1_2 x1_2.length cx1_2]) hs rfl rfl ?_
  clear hs; intro b3 w hs
  refine ow_v (x_assign (v := .int .i64 0) rfl) rfl ?_
  refine ow_nil ?_
  refine seqK_n ?_
  refine cw_seq ?_
  refine cw_block ?_
  refine cw_seq ?_
  refine cw_region ?_
  refine ow_load (k := 1) (vs := [.int .i64 x0_0, .int .i64 x0_1, .slice ax0_2 x0_2.length cx0_2]) (v := .agg #[.int .i64 x0_0, .int .i64 x0_1, .slice ax0_2 x0_2.length cx0_2]) hs rfl rfl ty26 rfl rfl rfl ?_
  obtain ⟨r5, hr6, hm2⟩ := bind_some hm
  replace hm := hm2; clear hm2
  refine ow_call (fi := []) (vs := [.agg #[.int .i64 x0_0, .int .i64 x0_1, .slice ax0_2 x0_2.length cx0_2]]) (ca := []) rfl ⟨rfl, trivial⟩ en19 (f19_ok _ _ _ hr6 hs hx0_2) ?_
  clear hs; rintro _ w ⟨J7, hle8, hs, rfl⟩
  replace hx0_2 := hx0_2.mono hle8
  replace hx1_2 := hx1_2.mono hle8
  refine ow_v (x_not (b := r5) rfl) rfl ?_
  refine ow_v (x_assign (v := .bool (!r5)) rfl) rfl ?_
  refine ow_nil ?_
  refine seqK_n ?_
  by_cases hc9 : (!r5) = true
  · rw [if_pos hc9] at hm
    refine cw_if_t rfl hc9 ?_
    refine cw_seq ?_
    refine cw_region ?_
    refine ow_v (x_assign (v := .int .i64 20) rfl) rfl ?_
    refine ow_nil ?_
    refine seqK_n ?_
    refine cw_ret ?_
    refine blockK_r ?_
    refine seqK_r ?_
    refine ret_ok (rs := [.tmp 4]) (vs := [.int .i64 20]) (.inr rfl) rfl ⟨rfl, trivial⟩ ?_
    obtain rfl := Option.some.inj hm
    replace hs := hs.erase 0
    replace hs := hs.erase 0
    exact ⟨J7, hle8, hs, rfl⟩
  · rw [if_neg hc9] at hm
    refine cw_if_f rfl (Bool.eq_false_iff.2 hc9) ?_
    refine cw_seq ?_
    refine cw_region ?_
    refine ow_load (k := 0) (vs := [.int .i64 x1_0, .int .i64 x1_1, .slice ax1_2 x1_2.length cx1_2]) (v := .agg #[.int .i64 x1_0, .int .i64 x1_1, .slice ax1_2 x1_2.length cx1_2]) hs rfl rfl ty28 rfl rfl rfl ?_
    obtain ⟨r10, hr11, hm2⟩ := bind_some hm
    replace hm := hm2; clear hm2
    refine ow_call (fi := []) (vs := [.agg #[.int .i64 x1_0, .int .i64 x1_1, .slice ax1_2 x1_2.length cx1_2]]) (ca := []) rfl ⟨rfl, trivial⟩ en20 (f20_ok _ _ _ hr11 hs hx1_2) ?_
    clear hs; rintro _ w ⟨J12, hle13, hs, rfl⟩
    replace hx0_2 := hx0_2.mono hle13
    replace hx1_2 := hx1_2.mono hle13
    refine ow_v (x_not (b := r10) rfl) rfl ?_
    refine ow_v (x_assign (v := .bool (!r10)) rfl) rfl ?_
    refine ow_nil ?_
    refine seqK_n ?_
    by_cases hc14 : (!r10) = true
    · rw [if_pos hc14] at hm
      refine cw_if_t rfl hc14 ?_
      refine cw_seq ?_
      refine cw_region ?_
      refine ow_v (x_assign (v := .int .i64 70) rfl) rfl ?_
      refine ow_nil ?_
      refine seqK_n ?_
      refine cw_ret ?_
      refine blockK_r ?_
      refine seqK_r ?_
      refine ret_ok (rs := [.tmp 4]) (vs := [.int .i64 70]) (.inr rfl) rfl ⟨rfl, trivial⟩ ?_
      obtain rfl := Option.some.inj hm
      replace hs := hs.erase 0
      replace hs := hs.erase 0
      exact ⟨J12, (hle8.trans hle13), hs, rfl⟩
    · rw [if_neg hc14] at hm
      refine cw_if_f rfl (Bool.eq_false_iff.2 hc14) ?_
      refine cw_skip ?_
      refine blockK_n ?_
      refine seqK_n ?_
      refine cw_seq ?_
      refine cw_region ?_
      refine ow_v (x_assign (v := .int .i64 0) rfl) rfl ?_
      refine ow_nil ?_
      refine seqK_n ?_
      refine cw_ret ?_
      refine ret_ok (rs := [.tmp 4]) (vs := [.int .i64 0]) (.inr rfl) rfl ⟨rfl, trivial⟩ ?_
      obtain rfl := Option.some.inj hm
      replace hs := hs.erase 0
      replace hs := hs.erase 0
      exact ⟨J12, (hle8.trans hle13), hs, rfl⟩

-- f7 slices.Equal[[]sightbench/api.Match,sightbench/api.Match]
def f7_l0 (x0 : List (Int × Int × Int × Int × Int)) (x1 : List (Int × Int × Int × Int × Int)) : Nat → Int → Option (Sum Unit Bool)
  | 0, _ => none
  | k + 1, v0_t_13 => (if v0_t_13 < (x0.length : Int) then (if 0 ≤ v0_t_13 ∧ v0_t_13 < (x0.length : Int) then (if 0 ≤ v0_t_13 ∧ v0_t_13 < (x1.length : Int) then (if ¬ (((at' x0 v0_t_13).1, (at' x0 v0_t_13).2.1, (at' x0 v0_t_13).2.2.1, (at' x0 v0_t_13).2.2.2.1, (at' x0 v0_t_13).2.2.2.2) = ((at' x1 v0_t_13).1, (at' x1 v0_t_13).2.1, (at' x1 v0_t_13).2.2.1, (at' x1 v0_t_13).2.2.2.1, (at' x1 v0_t_13).2.2.2.2)) then some (Sum.inr false) else (f7_l0 x0 x1 k (w64 (v0_t_13 + 1)))) else none) else none) else some (Sum.inl ()))
def f7_m (x0 : List (Int × Int × Int × Int × Int)) (x1 : List (Int × Int × Int × Int × Int)) : Option Bool :=
  (if ¬ ((x0.length : Int) = (x1.length : Int)) then some false else (lb (S := Unit) (f7_l0 x0 x1 FUEL 0) id (fun s21 => some true)))
theorem f7_ok (x0 : List (Int × Int × Int × Int × Int)) (x1 : List (Int × Int × Int × Int × Int)) {r : Bool} (hm : f7_m x0 x1 = some r) {ax0 : Option Addr} {cx0 : Nat} {ax1 : Option Addr} {cx1 : Nat} {I : Im} {F : List HP} {w : World} (hs : Sat I (F) w) (hx0 : Rs I 5 ax0 x0.length cx0 (x0.flatMap enc40)) (hx1 : Rs I 5 ax1 x1.length cx1 (x1.flatMap enc40)) :
    CV P 7 [.slice ax0 x0.length cx0, .slice ax1 x1.length cx1] w fun v w' => ∃ (J : Im), Im.le I J ∧ Sat J (F) w' ∧ v = .bool r := by
  unfold f7_m at hm
  refine cv_of (n := 26) Go.Proofs.Try.func7 rfl rfl (Nat.le_of_ble_eq_true rfl) ?_
  refine cw_seq ?_
  refine cw_region ?_
  refine ow_v (x_assign (v := .bool false) rfl) rfl ?_
  refine ow_nil ?_
  refine seqK_n ?_
  refine cw_seq ?_
  refine cw_seq ?_
  refine cw_region ?_
  refine ow_v (x_move (v := .slice ax0 x0.length cx0) rfl) rfl ?_
  refine ow_v (x_len sl29 rfl) rfl ?_
  refine ow_v (x_move (v := .slice ax1 x1.length cx1) rfl) rfl ?_
  refine ow_v (x_len sl29 rfl) rfl ?_
  refine ow_v (x_neqD (k := .i64) (a := (x0.length : Int)) (b := (x1.length : Int)) rfl rfl) rfl ?_
  refine ow_nil ?_
  refine seqK_n ?_
  by_cases hc1 : ¬ ((x0.length : Int) = (x1.length : Int))
  · rw [if_pos hc1] at hm
    refine cw_if_t rfl (decide_eq_true hc1) ?_
    refine cw_seq ?_
    refine cw_region ?_
    refine ow_v (x_assign (v := .bool false) rfl) rfl ?_
    refine ow_nil ?_
    refine seqK_n ?_
    refine cw_ret ?_
    refine seqK_r ?_
    refine ret_ok (rs := [.tmp 4]) (vs := [.bool false]) (.inr rfl) rfl ⟨rfl, trivial⟩ ?_
    obtain rfl := Option.some.inj hm
    exact ⟨I, Im.le.refl _, hs, rfl⟩
  · rw [if_neg hc1] at hm
    refine cw_if_f rfl (decide_eq_false hc1) ?_
    refine cw_skip ?_
    refine seqK_n ?_
    obtain ⟨o20, hm2, hq22⟩ := lb_some hm
    replace hm := hm2; clear hm2
    refine cw_join (fun f ds w => ∃ (s21 : Unit) (I23 : Im), ds = [] ∧ Im.le I I23 ∧ o20 = Sum.inl s21 ∧ Sat I23 (F) w ∧ f 4 = .bool false) ?_ ?_
    · skip
      refine cw_seq ?_
      refine cw_region ?_
      refine ow_v (x_move (v := .slice ax0 x0.length cx0) rfl) rfl ?_
      refine ow_v (x_len sl29 rfl) rfl ?_
      refine ow_v (x_move (v := .int .i64 0) rfl) rfl ?_
      refine ow_nil ?_
      refine seqK_n ?_
      refine cw_block ?_
      refine cw_loop (S := fun k f ds w => ∃ (v0_t_13 : Int), ∃ (I36 : Im), ds = [] ∧ Im.le I I36 ∧ f7_l0 x0 x1 k v0_t_13 = some o20 ∧ Sat I36 (F) w ∧ f 0 = .slice ax0 x0.length cx0 ∧ f 1 = .slice ax1 x1.length cx1 ∧ f 4 = .bool false ∧ f 12 = .int .i64 (x0.length : Int) ∧ f 13 = .int .i64 v0_t_13) ?_ (k := FUEL) ⟨0, I, rfl, Im.le.refl _, hm, hs, rfl, rfl, rfl, rfl, rfl⟩
      clear hm hs
      rintro k f ds w ⟨v0_t_13, I36, rfl, hle37, hm, hs, ht0_L0, ht1_L0, ht4_L0, ht12_L0, ht13_L0⟩
      replace hx0 := hx0.mono hle37
      replace hx1 := hx1.mono hle37
      rcases k with _ | k
      · unfold f7_l0 at hm; cases hm
      unfold f7_l0 at hm
      refine cw_seq ?_
      refine cw_region ?_
      refine ow_v (x_lss (k := .i64) (a := v0_t_13) (b := (x0.length : Int)) ht13_L0 ht12_L0) rfl ?_
      refine ow_nil ?_
      refine seqK_n ?_
      refine cw_seq ?_
      by_cases hc38 : v0_t_13 < (x0.length : Int)
      · rw [if_pos hc38] at hm
        refine cw_if_t rfl (decide_eq_true hc38) ?_
        refine cw_skip ?_
        refine seqK_n ?_
        refine cw_seq ?_
        refine cw_block ?_
        refine cw_seq ?_
        refine cw_region ?_
        refine ow_v (x_move (v := .int .i64 v0_t_13) ht13_L0) rfl ?_
        refine ow_v (x_assign (v := .int .i64 v0_t_13) rfl) rfl ?_
        refine ow_nil ?_
        refine seqK_n ?_
        refine cw_seq ?_
        have hg39 := (ite_some hm).1
        replace hm := (ite_some hm).2
        have hg40 := (ite_some hm).1
        replace hm := (ite_some hm).2
        refine cw_drawF mixed rfl (fun f0 L f w => ∃ (Iq : Im), Im.le I36 Iq ∧ f = frL [(16, 0, .slice ax0 x0.length cx0), (17, 1, .int .i64 v0_t_13), (18, 2, .pointer (some (ea ax0 (v0_t_13.toNat * 5)))), (19, 3, .agg #[.int .i64 ((at' x0 v0_t_13).1), .int .i64 ((at' x0 v0_t_13).2.1), .int .i64 ((at' x0 v0_t_13).2.2.1), .int .i64 ((at' x0 v0_t_13).2.2.2.1), .int .i64 ((at' x0 v0_t_13).2.2.2.2)]), (20, 4, .slice ax1 x1.length cx1), (21, 5, .int .i64 v0_t_13), (22, 6, .pointer (some (ea ax1 (v0_t_13.toNat * 5)))), (23, 7, .agg #[.int .i64 ((at' x1 v0_t_13).1), .int .i64 ((at' x1 v0_t_13).2.1), .int .i64 ((at' x1 v0_t_13).2.2.1), .int .i64 ((at' x1 v0_t_13).2.2.2.1), .int .i64 ((at' x1 v0_t_13).2.2.2.2)]), (24, 8, .bool (decide (¬ (((at' x0 v0_t_13).1, (at' x0 v0_t_13).2.1, (at' x0 v0_t_13).2.2.1, (at' x0 v0_t_13).2.2.2.1, (at' x0 v0_t_13).2.2.2.2) = ((at' x1 v0_t_13).1, (at' x1 v0_t_13).2.1, (at' x1 v0_t_13).2.2.1, (at' x1 v0_t_13).2.2.2.1, (at' x1 v0_t_13).2.2.2.2)))))] L f0 ∧ Sat Iq (F) w) ⟨I36, Im.le.refl _, (frL_ff _).symm, hs.drew⟩ ⟨?_, ?_, ?_, ?_, ?_, ?_, ?_, ?_, ?_, trivial⟩ ?_
        all_goals clear hs
        · rintro L f w _ hL ⟨Iq, hleq, rfl, hs⟩
          replace hx0 := hx0.mono hleq
          replace hx1 := hx1.mono hleq
          refine ow_v (x_move (v := .slice ax0 x0.length cx0) ht0_L0) rfl ?_
          exact ow_nil ⟨rfl, rfl, Iq, hleq, frL_set rfl rfl, hs⟩
        · rintro L f w _ hL ⟨Iq, hleq, rfl, hs⟩
          replace hx0 := hx0.mono hleq
          replace hx1 := hx1.mono hleq
          refine ow_v (x_move (v := .int .i64 v0_t_13) rfl) rfl ?_
          exact ow_nil ⟨rfl, rfl, Iq, hleq, frL_set rfl rfl, hs⟩
        · rintro L f w ⟨hL0, hL1, _⟩ hL ⟨Iq, hleq, rfl, hs⟩
          replace hx0 := hx0.mono hleq
          replace hx1 := hx1.mono hleq
          refine ow_index (i := v0_t_13) sl29 ty40 (frL_get rfl hL0) (frL_get rfl hL1) hg39.1 hg39.2 (Rs.some hx0 (by have := hg39; omega)) ?_
          exact ow_nil ⟨rfl, rfl, Iq, hleq, frL_set rfl rfl, hs⟩
        · rintro L f w ⟨hL2, _⟩ hL ⟨Iq, hleq, rfl, hs⟩
          replace hx0 := hx0.mono hleq
          replace hx1 := hx1.mono hleq
          refine ow_loadR (p := v0_t_13.toNat * 5) (vs := [.int .i64 ((at' x0 v0_t_13).1), .int .i64 ((at' x0 v0_t_13).2.1), .int .i64 ((at' x0 v0_t_13).2.2.1), .int .i64 ((at' x0 v0_t_13).2.2.2.1), .int .i64 ((at' x0 v0_t_13).2.2.2.2)]) (v := .agg #[.int .i64 ((at' x0 v0_t_13).1), .int .i64 ((at' x0 v0_t_13).2.1), .int .i64 ((at' x0 v0_t_13).2.2.1), .int .i64 ((at' x0 v0_t_13).2.2.2.1), .int .i64 ((at' x0 v0_t_13).2.2.2.2)]) hs hx0 (frL_get rfl hL2) ty40 (flat_at (enc := enc40) (sz := 5) (fun _ => rfl) x0 v0_t_13 hg39.1 hg39.2 0 5 (by decide)) rfl rfl ?_
          exact ow_nil ⟨rfl, rfl, Iq, hleq, frL_set rfl rfl, hs⟩
        · rintro L f w _ hL ⟨Iq, hleq, rfl, hs⟩
          replace hx0 := hx0.mono hleq
          replace hx1 := hx1.mono hleq
          refine ow_v (x_move (v := .slice ax1 x1.length cx1) ht1_L0) rfl ?_
          exact ow_nil ⟨rfl, rfl, Iq, hleq, frL_set rfl rfl, hs⟩
        · rintro L f w _ hL ⟨Iq, hleq, rfl, hs⟩
          replace hx0 := hx0.mono hleq
          replace hx1 := hx1.mono hleq
          refine ow_v (x_move (v := .int .i64 v0_t_13) rfl) rfl ?_
          exact ow_nil ⟨rfl, rfl, Iq, hleq, frL_set rfl rfl, hs⟩
        · rintro L f w ⟨hL4, hL5, _⟩ hL ⟨Iq, hleq, rfl, hs⟩
          replace hx0 := hx0.mono hleq
          replace hx1 := hx1.mono hleq
          refine ow_index (i := v0_t_13) sl29 ty40 (frL_get rfl hL4) (frL_get rfl hL5) hg40.1 hg40.2 (Rs.some hx1 (by have := hg40; omega)) ?_
          exact ow_nil ⟨rfl, rfl, Iq, hleq, frL_set rfl rfl, hs⟩
        · rintro L f w ⟨hL6, _⟩ hL ⟨Iq, hleq, rfl, hs⟩
          replace hx0 := hx0.mono hleq
          replace hx1 := hx1.mono hleq
          refine ow_loadR (p := v0_t_13.toNat * 5) (vs := [.int .i64 ((at' x1 v0_t_13).1), .int .i64 ((at' x1 v0_t_13).2.1), .int .i64 ((at' x1 v0_t_13).2.2.1), .int .i64 ((at' x1 v0_t_13).2.2.2.1), .int .i64 ((at' x1 v0_t_13).2.2.2.2)]) (v := .agg #[.int .i64 ((at' x1 v0_t_13).1), .int .i64 ((at' x1 v0_t_13).2.1), .int .i64 ((at' x1 v0_t_13).2.2.1), .int .i64 ((at' x1 v0_t_13).2.2.2.1), .int .i64 ((at' x1 v0_t_13).2.2.2.2)]) hs hx1 (frL_get rfl hL6) ty40 (flat_at (enc := enc40) (sz := 5) (fun _ => rfl) x1 v0_t_13 hg40.1 hg40.2 0 5 (by decide)) rfl rfl ?_
          exact ow_nil ⟨rfl, rfl, Iq, hleq, frL_set rfl rfl, hs⟩
        · rintro L f w ⟨hL3, hL7, _⟩ hL ⟨Iq, hleq, rfl, hs⟩
          replace hx0 := hx0.mono hleq
          replace hx1 := hx1.mono hleq
          refine ow_v (x_neqAgg (p := ((at' x0 v0_t_13).1, (at' x0 v0_t_13).2.1, (at' x0 v0_t_13).2.2.1, (at' x0 v0_t_13).2.2.2.1, (at' x0 v0_t_13).2.2.2.2) = ((at' x1 v0_t_13).1, (at' x1 v0_t_13).2.1, (at' x1 v0_t_13).2.2.1, (at' x1 v0_t_13).2.2.2.1, (at' x1 v0_t_13).2.2.2.2)) gd40 (frL_get rfl hL3) (frL_get rfl hL7) (fun w => eq40 9997 _ _ _ _ _ _ _ _ _ _ w)) rfl ?_
          exact ow_nil ⟨rfl, rfl, Iq, hleq, frL_set rfl rfl, hs⟩
        rintro L f w hall ⟨I42, hle41, rfl, hs⟩
        rw [frL_tt _ rfl hall]
        replace hx0 := hx0.mono hle41
        replace hx1 := hx1.mono hle41
        refine seqK_n ?_
        by_cases hc43 : ¬ (((at' x0 v0_t_13).1, (at' x0 v0_t_13).2.1, (at' x0 v0_t_13).2.2.1, (at' x0 v0_t_13).2.2.2.1, (at' x0 v0_t_13).2.2.2.2) = ((at' x1 v0_t_13).1, (at' x1 v0_t_13).2.1, (at' x1 v0_t_13).2.2.1, (at' x1 v0_t_13).2.2.2.1, (at' x1 v0_t_13).2.2.2.2))
        · rw [if_pos hc43] at hm
          refine cw_if_t rfl (decide_eq_true hc43) ?_
          refine cw_seq ?_
          refine cw_region ?_
          refine ow_v (x_assign (v := .bool false) rfl) rfl ?_
          refine ow_nil ?_
          refine seqK_n ?_
          refine cw_ret ?_
          refine blockK_r ?_
          refine seqK_r ?_
          refine loopK_r ?_
          refine blockK_r ?_
          refine joinK_r ?_
          refine ret_ok (rs := [.tmp 4]) (vs := [.bool false]) (.inr rfl) rfl ⟨rfl, trivial⟩ ?_
          replace hm := lret hm hq22
          obtain rfl := Option.some.inj hm
          exact ⟨I42, (hle37.trans hle41), hs, rfl⟩
        · rw [if_neg hc43] at hm
          refine cw_if_f rfl (decide_eq_false hc43) ?_
          refine cw_skip ?_
          refine blockK_n ?_
          refine seqK_n ?_
          refine cw_region ?_
          refine ow_v (x_add (k := .i64) (a := v0_t_13) (b := 1) ht13_L0 rfl) rfl ?_
          refine ow_v (x_move (v := .int .i64 (w64 (v0_t_13 + 1))) rfl) rfl ?_
          refine ow_nil ?_
          exact loopK_n ⟨k, Nat.lt_succ_self k, w64 (v0_t_13 + 1), I42, rfl, (hle37.trans hle41), hm, hs, ht0_L0, ht1_L0, ht4_L0, ht12_L0, rfl⟩
      · rw [if_neg hc38] at hm
        refine cw_if_f rfl (decide_eq_false hc38) ?_
        refine cw_exit ?_
        refine seqK_x ?_
        refine loopK_x ?_
        refine blockK_hit ?_
        obtain rfl := Option.some.inj hm
        refine joinK_n ⟨(), I36, rfl, hle37, rfl, hs, ht4_L0⟩
    · clear hm hs
      rintro f ds w ⟨s21, I23, rfl, hle44, rfl, hs, ht4_o20⟩
      replace hm := lexit rfl hq22
      replace hx0 := hx0.mono hle44
      replace hx1 := hx1.mono hle44
      refine cw_seq ?_
      refine cw_region ?_
      refine ow_v (x_assign (v := .bool true) rfl) rfl ?_
      refine ow_nil ?_
      refine seqK_n ?_
      refine cw_ret ?_
      refine ret_ok (rs := [.tmp 4]) (vs := [.bool true]) (.inr rfl) rfl ⟨rfl, trivial⟩ ?_
      obtain rfl := Option.some.inj hm
      exact ⟨I23, hle44, hs, rfl⟩

-- f12 sightbench/find.Find$1
def f12_m : Nat → Int → Int → Int → Int → Int → Int → (List (Int × Int × Int)) → Int → Int → (List Int) → Int → (List (Int × Int × Int × Int × Int)) → (List (Int × Int × Int × Int × Int × Int)) → Option ((List (Int × Int × Int × Int × Int)) × (List (Int × Int × Int × Int × Int × Int)))
  | 0, _, _, _, _, _, _, _, _, _, _, _, _, _ => none
  | fuel + 1, x0_0, x0_1, x0_2, x0_3, x0_4, x0_5, y1, y2_0, y2_1, y2_2, y3, y4_0, y4_1 =>
  ((f13_m y1 y2_0 y2_1 y2_2 x0_0 x0_1 x0_2 x0_3 x0_4 x0_5).bind fun r3 => (if y3 < r3 then (if y4_1.length + [(x0_0, x0_1, x0_2, x0_3, x0_4, x0_5)].length ≤ 1099511627776 then some (y4_0, y4_1 ++ [(x0_0, x0_1, x0_2, x0_3, x0_4, x0_5)]) else none) else ((if (w64 (x0_2 - x0_0)) = 0 then some (decide ((w64 (x0_3 - x0_1)) = 0)) else some false).bind fun b23 => (if b23 = true then (if y4_0.length + [(x0_0, x0_1, x0_4, x0_5, r3)].length ≤ 1099511627776 then some (y4_0 ++ [(x0_0, x0_1, x0_4, x0_5, r3)], y4_1) else none) else (if (w64 (x0_3 - x0_1)) ≤ (w64 (x0_2 - x0_0)) then ((f12_m fuel x0_0 x0_1 ((w64 (x0_0 + x0_2)) / 2) x0_3 x0_4 x0_5 y1 y2_0 y2_1 y2_2 y3 y4_0 y4_1).bind fun r36 => ((f12_m fuel (w64 (((w64 (x0_0 + x0_2)) / 2) + 1)) x0_1 x0_2 x0_3 x0_4 x0_5 y1 y2_0 y2_1 y2_2 y3 r36.1 r36.2).bind fun r41 => some (r41.1, r41.2))) else ((f12_m fuel x0_0 x0_1 x0_2 ((w64 (x0_1 + x0_3)) / 2) x0_4 x0_5 y1 y2_0 y2_1 y2_2 y3 y4_0 y4_1).bind fun r46 => ((f12_m fuel x0_0 (w64 (((w64 (x0_1 + x0_3)) / 2) + 1)) x0_2 x0_3 x0_4 x0_5 y1 y2_0 y2_1 y2_2 y3 r46.1 r46.2).bind fun r51 => some (r51.1, r51.2))))))))
theorem f12_ok : ∀ (fuel : Nat) (x0_0 : Int) (x0_1 : Int) (x0_2 : Int) (x0_3 : Int) (x0_4 : Int) (x0_5 : Int) (y1 : List (Int × Int × Int)) (y2_0 : Int) (y2_1 : Int) (y2_2 : List Int) (y3 : Int) (y4_0 : List (Int × Int × Int × Int × Int)) (y4_1 : List (Int × Int × Int × Int × Int × Int)) {r : (List (Int × Int × Int × Int × Int)) × (List (Int × Int × Int × Int × Int × Int))} (hm : f12_m fuel x0_0 x0_1 x0_2 x0_3 x0_4 x0_5 y1 y2_0 y2_1 y2_2 y3 y4_0 y4_1 = some r) {b1_ : Nat} {ay1 : Option Addr} {cy1 : Nat} {b2_ : Nat} {ay2_2 : Option Addr} {cy2_2 : Nat} {b3_ : Nat} {b4_ : Nat} {ay4_0 : Option Addr} {cy4_0 : Nat} {ay4_1 : Option Addr} {cy4_1 : Nat} {b5_ : Nat} {I : Im} {F : List HP} {w : World} (hs : Sat I (blk b4_ 32 [.slice ay4_0 y4_0.length cy4_0, .slice ay4_1 y4_1.length cy4_1] :: osl 40 5 ay4_0 y4_0.length cy4_0 (y4_0.flatMap enc40) :: osl 49 6 ay4_1 y4_1.length cy4_1 (y4_1.flatMap enc49) :: F) w) (hy1 : Rs I 3 ay1 y1.length cy1 (y1.flatMap enc66)) (hb1 : Ib I b1_ 51 [.slice ay1 y1.length cy1]) (hy2_2 : Rs I 1 ay2_2 y2_2.length cy2_2 (y2_2.flatMap e64)) (hb2 : Ib I b2_ 26 [.int .i64 y2_0, .int .i64 y2_1, .slice ay2_2 y2_2.length cy2_2]) (hb3 : Ib I b3_ 3 [.int .i64 y3]) (hb5 : Ib I b5_ 53 [.func (.func 12) #[] #[.pointer (some ⟨b1_, 0, none⟩), .pointer (some ⟨b2_, 0, none⟩), .pointer (some ⟨b3_, 0, none⟩), .pointer (some ⟨b4_, 0, none⟩), .pointer (some ⟨b5_, 0, none⟩)]]),
    CV P 12 [.agg #[.int .i64 x0_0, .int .i64 x0_1, .int .i64 x0_2, .int .i64 x0_3, .int .i64 x0_4, .int .i64 x0_5], .pointer (some ⟨b1_, 0, none⟩), .pointer (some ⟨b2_, 0, none⟩), .pointer (some ⟨b3_, 0, none⟩), .pointer (some ⟨b4_, 0, none⟩), .pointer (some ⟨b5_, 0, none⟩)] w fun v w' => ∃ (J : Im) (ao_p4_0 : Option Addr) (co_p4_0 : Nat) (ao_p4_1 : Option Addr) (co_p4_1 : Nat), Im.le I J ∧ Sat J (blk b4_ 32 [.slice ao_p4_0 r.1.length co_p4_0, .slice ao_p4_1 r.2.length co_p4_1] :: osl 40 5 ao_p4_0 r.1.length co_p4_0 (r.1.flatMap enc40) :: osl 49 6 ao_p4_1 r.2.length co_p4_1 (r.2.flatMap enc49) :: F) w' ∧ v = .tuple #[] := by
  intro fuel
  induction fuel with
  | zero => intro x0_0 x0_1 x0_2 x0_3 x0_4 x0_5 y1 y2_0 y2_1 y2_2 y3 y4_0 y4_1 r hm b1_ ay1 cy1 b2_ ay2_2 cy2_2 b3_ b4_ ay4_0 cy4_0 ay4_1 cy4_1 b5_ I F w hs hy1 hb1 hy2_2 hb2 hb3 hb5; unfold f12_m at hm; cases hm
  | succ fuel ih =>
  intro x0_0 x0_1 x0_2 x0_3 x0_4 x0_5 y1 y2_0 y2_1 y2_2 y3 y4_0 y4_1 r hm b1_ ay1 cy1 b2_ ay2_2 cy2_2 b3_ b4_ ay4_0 cy4_0 ay4_1 cy4_1 b5_ I F w hs hy1 hb1 hy2_2 hb2 hb3 hb5
  unfold f12_m at hm
  refine cv_of (n := 93) Go.Proofs.Try.func12 rfl rfl (Nat.le_of_ble_eq_true rfl) ?_
  refine cw_seq ?_
  refine cw_region ?_
  refine ow_box (v := .agg #[.int .i64 x0_0, .int .i64 x0_1, .int .i64 x0_2, .int .i64 x0_3, .int .i64 x0_4, .int .i64 x0_5]) (cs := [.int .i64 x0_0, .int .i64 x0_1, .int .i64 x0_2, .int .i64 x0_3, .int .i64 x0_4, .int .i64 x0_5]) hs rfl rfl ?_
  clear hs; intro b1 w hs
  refine ow_nil ?_
  refine seqK_n ?_
  refine cw_seq ?_
  refine cw_region ?_
  refine ow_loadI (vs := [.slice ay1 y1.length cy1]) (v := .slice ay1 y1.length cy1) hs hb1 rfl ty51 rfl rfl rfl ?_
  refine ow_loadI (vs := [.int .i64 y2_0, .int .i64 y2_1, .slice ay2_2 y2_2.length cy2_2]) (v := .agg #[.int .i64 y2_0, .int .i64 y2_1, .slice ay2_2 y2_2.length cy2_2]) hs hb2 rfl ty26 rfl rfl rfl ?_
  refine ow_load (k := 0) (vs := [.int .i64 x0_0, .int .i64 x0_1, .int .i64 x0_2, .int .i64 x0_3, .int .i64 x0_4, .int .i64 x0_5]) (v := .agg #[.int .i64 x0_0, .int .i64 x0_1, .int .i64 x0_2, .int .i64 x0_3, .int .i64 x0_4, .int .i64 x0_5]) hs rfl rfl ty49 rfl rfl rfl ?_
  obtain ⟨r3, hr4, hm2⟩ := bind_some hm
  replace hm := hm2; clear hm2
  refine ow_call (fi := []) (vs := [.slice ay1 y1.length cy1, .agg #[.int .i64 y2_0, .int .i64 y2_1, .slice ay2_2 y2_2.length cy2_2], .agg #[.int .i64 x0_0, .int .i64 x0_1, .int .i64 x0_2, .int .i64 x0_3, .int .i64 x0_4, .int .i64 x0_5]]) (ca := []) rfl ⟨rfl, rfl, rfl, trivial⟩ en13 (f13_ok _ _ _ _ _ _ _ _ _ _ hr4 hs hy1 hy2_2) ?_
  clear hs; rintro _ w ⟨J5, hle6, hs, rfl⟩
  replace hy1 := hy1.mono hle6
  replace hb1 := hb1.mono hle6
  replace hy2_2 := hy2_2.mono hle6
  replace hb2 := hb2.mono hle6
  replace hb3 := hb3.mono hle6
  replace hb5 := hb5.mono hle6
  refine ow_v (x_assign (v := .int .i64 r3) rfl) rfl ?_
  refine ow_nil ?_
  refine seqK_n ?_
  refine cw_seq ?_
  refine cw_drawF mixed rfl (fun f0 L f w => ∃ (Iq : Im), Im.le J5 Iq ∧ f = frL [(16, 0, .pointer (some ⟨b1, 2, none⟩)), (17, 1, .int .i64 x0_2), (18, 2, .pointer (some ⟨b1, 0, none⟩)), (19, 3, .int .i64 x0_0), (20, 4, .int .i64 (w64 (x0_2 - x0_0))), (21, 5, .pointer (some ⟨b1, 3, none⟩)), (22, 6, .int .i64 x0_3), (23, 7, .pointer (some ⟨b1, 1, none⟩)), (24, 8, .int .i64 x0_1), (25, 9, .int .i64 (w64 (x0_3 - x0_1))), (8, 10, .int .i64 (w64 (x0_2 - x0_0))), (9, 11, .int .i64 (w64 (x0_3 - x0_1)))] L f0 ∧ Sat Iq (blk b1 49 [.int .i64 x0_0, .int .i64 x0_1, .int .i64 x0_2, .int .i64 x0_3, .int .i64 x0_4, .int .i64 x0_5] :: blk b4_ 32 [.slice ay4_0 y4_0.length cy4_0, .slice ay4_1 y4_1.length cy4_1] :: osl 40 5 ay4_0 y4_0.length cy4_0 (y4_0.flatMap enc40) :: osl 49 6 ay4_1 y4_1.length cy4_1 (y4_1.flatMap enc49) :: F) w) ⟨J5, Im.le.refl _, (frL_ff _).symm, hs.drew⟩ ⟨?_, ?_, ?_, ?_, ?_, ?_, ?_, ?_, ?_, ?_, ?_, ?_, trivial⟩ ?_
  all_goals clear hs
  · rintro L f w _ hL ⟨Iq, hleq, rfl, hs⟩
    replace hy1 := hy1.mono hleq
    replace hb1 := hb1.mono hleq
    replace hy2_2 := hy2_2.mono hleq
    replace hb2 := hb2.mono hleq
    replace hb3 := hb3.mono hleq
    replace hb5 := hb5.mono hleq
    refine ow_field (b := b1) (o := 0) fl49_2 rfl ?_
    exact ow_nil ⟨rfl, rfl, Iq, hleq, frL_set rfl rfl, hs⟩
  · rintro L f w ⟨hL0, _⟩ hL ⟨Iq, hleq, rfl, hs⟩
    replace hy1 := hy1.mono hleq
    replace hb1 := hb1.mono hleq
    replace hy2_2 := hy2_2.mono hleq
    replace hb2 := hb2.mono hleq
    replace hb3 := hb3.mono hleq
    replace hb5 := hb5.mono hleq
    refine ow_load (k := 0) (vs := [.int .i64 x0_2]) (v := .int .i64 x0_2) hs rfl (frL_get rfl hL0) ty3 rfl rfl rfl ?_
    exact ow_nil ⟨rfl, rfl, Iq, hleq, frL_set rfl rfl, hs⟩
  · rintro L f w _ hL ⟨Iq, hleq, rfl, hs⟩
    replace hy1 := hy1.mono hleq
    replace hb1 := hb1.mono hleq
    replace hy2_2 := hy2_2.mono hleq
    replace hb2 := hb2.mono hleq
    replace hb3 := hb3.mono hleq
    replace hb5 := hb5.mono hleq
    refine ow_field (b := b1) (o := 0) fl49_0 rfl ?_
    exact ow_nil ⟨rfl, rfl, Iq, hleq, frL_set rfl rfl, hs⟩
  · rintro L f w ⟨hL2, _⟩ hL ⟨Iq, hleq, rfl, hs⟩
    replace hy1 := hy1.mono hleq
    replace hb1 := hb1.mono hleq
    replace hy2_2 := hy2_2.mono hleq
    replace hb2 := hb2.mono hleq
    replace hb3 := hb3.mono hleq
    replace hb5 := hb5.mono hleq
    refine ow_load (k := 0) (vs := [.int .i64 x0_0]) (v := .int .i64 x0_0) hs rfl (frL_get rfl hL2) ty3 rfl rfl rfl ?_
    exact ow_nil ⟨rfl, rfl, Iq, hleq, frL_set rfl rfl, hs⟩
  · rintro L f w ⟨hL1, hL3, _⟩ hL ⟨Iq, hleq, rfl, hs⟩
    replace hy1 := hy1.mono hleq
    replace hb1 := hb1.mono hleq
    replace hy2_2 := hy2_2.mono hleq
    replace hb2 := hb2.mono hleq
    replace hb3 := hb3.mono hleq
    replace hb5 := hb5.mono hleq
    refine ow_v (x_sub (k := .i64) (a := x0_2) (b := x0_0) (frL_get rfl hL1) (frL_get rfl hL3)) rfl ?_
    exact ow_nil ⟨rfl, rfl, Iq, hleq, frL_set rfl rfl, hs⟩
  · rintro L f w _ hL ⟨Iq, hleq, rfl, hs⟩
    replace hy1 := hy1.mono hleq
    replace hb1 := hb1.mono hleq
    replace hy2_2 := hy2_2.mono hleq
    replace hb2 := hb2.mono hleq
    replace hb3 := hb3.mono hleq
    replace hb5 := hb5.mono hleq
    refine ow_field (b := b1) (o := 0) fl49_3 rfl ?_
    exact ow_nil ⟨rfl, rfl, Iq, hleq, frL_set rfl rfl, hs⟩
  · rintro L f w ⟨hL5, _⟩ hL ⟨Iq, hleq, rfl, hs⟩
    replace hy1 := hy1.mono hleq
    replace hb1 := hb1.mono hleq
    replace hy2_2 := hy2_2.mono hleq
    replace hb2 := hb2.mono hleq
    replace hb3 := hb3.mono hleq
    replace hb5 := hb5.mono hleq
    refine ow_load (k := 0) (vs := [.int .i64 x0_3]) (v := .int .i64 x0_3) hs rfl (frL_get rfl hL5) ty3 rfl rfl rfl ?_
    exact ow_nil ⟨rfl, rfl, Iq, hleq, frL_set rfl rfl, hs⟩
  · rintro L f w _ hL ⟨Iq, hleq, rfl, hs⟩
    replace hy1 := hy1.mono hleq
    replace hb1 := hb1.mono hleq
    replace hy2_2 := hy2_2.mono hleq
    replace hb2 := hb2.mono hleq
    replace hb3 := hb3.mono hleq
    replace hb5 := hb5.mono hleq
    refine ow_field (b := b1) (o := 0) fl49_1 rfl ?_
    exact ow_nil ⟨rfl, rfl, Iq, hleq, frL_set rfl rfl, hs⟩
  · rintro L f w ⟨hL7, _⟩ hL ⟨Iq, hleq, rfl, hs⟩
    replace hy1 := hy1.mono hleq
    replace hb1 := hb1.mono hleq
    replace hy2_2 := hy2_2.mono hleq
    replace hb2 := hb2.mono hleq
    replace hb3 := hb3.mono hleq
    replace hb5 := hb5.mono hleq
    refine ow_load (k := 0) (vs := [.int .i64 x0_1]) (v := .int .i64 x0_1) hs rfl (frL_get rfl hL7) ty3 rfl rfl rfl ?_
    exact ow_nil ⟨rfl, rfl, Iq, hleq, frL_set rfl rfl, hs⟩
  · rintro L f w ⟨hL6, hL8, _⟩ hL ⟨Iq, hleq, rfl, hs⟩
    replace hy1 := hy1.mono hleq
    replace hb1 := hb1.mono hleq
    replace hy2_2 := hy2_2.mono hleq
    replace hb2 := hb2.mono hleq
    replace hb3 := hb3.mono hleq
    replace hb5 := hb5.mono hleq
    refine ow_v (x_sub (k := .i64) (a := x0_3) (b := x0_1) (frL_get rfl hL6) (frL_get rfl hL8)) rfl ?_
    exact ow_nil ⟨rfl, rfl, Iq, hleq, frL_set rfl rfl, hs⟩
  · rintro L f w ⟨hL4, hL0, hL1, hL2, hL3, _, _⟩ hL ⟨Iq, hleq, rfl, hs⟩
    replace hy1 := hy1.mono hleq
    replace hb1 := hb1.mono hleq
    replace hy2_2 := hy2_2.mono hleq
    replace hb2 := hb2.mono hleq
    replace hb3 := hb3.mono hleq
    replace hb5 := hb5.mono hleq
    refine ow_v (x_assign (v := .int .i64 (w64 (x0_2 - x0_0))) (frL_get rfl hL4)) rfl ?_
    exact ow_nil ⟨rfl, rfl, Iq, hleq, frL_set rfl rfl, hs⟩
  · rintro L f w ⟨hL9, hL10, hL0, hL1, hL2, hL3, hL4, hL5, hL6, hL7, hL8, _, _, _⟩ hL ⟨Iq, hleq, rfl, hs⟩
    replace hy1 := hy1.mono hleq
    replace hb1 := hb1.mono hleq
    replace hy2_2 := hy2_2.mono hleq
    replace hb2 := hb2.mono hleq
    replace hb3 := hb3.mono hleq
    replace hb5 := hb5.mono hleq
    refine ow_v (x_assign (v := .int .i64 (w64 (x0_3 - x0_1))) (frL_get rfl hL9)) rfl ?_
    exact ow_nil ⟨rfl, rfl, Iq, hleq, frL_set rfl rfl, hs⟩
  rintro L f w hall ⟨I8, hle7, rfl, hs⟩
  rw [frL_tt _ rfl hall]
  replace hy1 := hy1.mono hle7
  replace hb1 := hb1.mono hle7
  replace hy2_2 := hy2_2.mono hle7
  replace hb2 := hb2.mono hle7
  replace hb3 := hb3.mono hle7
  replace hb5 := hb5.mono hle7
  refine seqK_n ?_
  refine cw_seq ?_
  replace hs := hs.pushEmp
  replace hs := hs.pushEmp
  refine cw_drawF mixed rfl (fun f0 L f w => ∃ (b9 : Nat) (b11 : Nat) (Iq : Im), Im.le I8 Iq ∧ f = frL [(26, 0, .agg #[.int .i64 x0_0, .int .i64 x0_1, .int .i64 x0_2, .int .i64 x0_3, .int .i64 x0_4, .int .i64 x0_5]), (27, 1, .agg #[.int .i64 x0_0, .int .i64 x0_1, .int .i64 x0_2, .int .i64 x0_3, .int .i64 x0_4, .int .i64 x0_5]), (10, 2, .pointer (some ⟨b9, 0, none⟩)), (11, 3, .pointer (some ⟨b11, 0, none⟩))] L f0 ∧ Sat Iq (rL [(4, blk b9 49 [.int .i64 x0_0, .int .i64 x0_1, .int .i64 x0_2, .int .i64 x0_3, .int .i64 x0_4, .int .i64 x0_5]), (2, blk b9 49 [.int .i64 0, .int .i64 0, .int .i64 0, .int .i64 0, .int .i64 0, .int .i64 0])] emp L :: rL [(5, blk b11 49 [.int .i64 x0_0, .int .i64 x0_1, .int .i64 x0_2, .int .i64 x0_3, .int .i64 x0_4, .int .i64 x0_5]), (3, blk b11 49 [.int .i64 0, .int .i64 0, .int .i64 0, .int .i64 0, .int .i64 0, .int .i64 0])] emp L :: blk b1 49 [.int .i64 x0_0, .int .i64 x0_1, .int .i64 x0_2, .int .i64 x0_3, .int .i64 x0_4, .int .i64 x0_5] :: blk b4_ 32 [.slice ay4_0 y4_0.length cy4_0, .slice ay4_1 y4_1.length cy4_1] :: osl 40 5 ay4_0 y4_0.length cy4_0 (y4_0.flatMap enc40) :: osl 49 6 ay4_1 y4_1.length cy4_1 (y4_1.flatMap enc49) :: F) w ∧ (L 4 = true → L 2 = true) ∧ (L 5 = true → L 3 = true)) ⟨0, 0, I8, Im.le.refl _, (frL_ff _).symm, hs.drew, (fun h => by cases h), (fun h => by cases h)⟩ ⟨?_, ?_, ?_, ?_, ?_, ?_, trivial⟩ ?_
  all_goals clear hs
  · rintro L f w _ hL ⟨b9, b11, Iq, hleq, rfl, hs, pr4_2, pr5_3⟩
    replace hy1 := hy1.mono hleq
    replace hb1 := hb1.mono hleq
    replace hy2_2 := hy2_2.mono hleq
    replace hb2 := hb2.mono hleq
    replace hb3 := hb3.mono hleq
    replace hb5 := hb5.mono hleq
    refine ow_load (k := 2) (vs := [.int .i64 x0_0, .int .i64 x0_1, .int .i64 x0_2, .int .i64 x0_3, .int .i64 x0_4, .int .i64 x0_5]) (v := .agg #[.int .i64 x0_0, .int .i64 x0_1, .int .i64 x0_2, .int .i64 x0_3, .int .i64 x0_4, .int .i64 x0_5]) hs rfl rfl ty49 rfl rfl rfl ?_
    exact ow_nil ⟨rfl, rfl, b9, b11, Iq, hleq, frL_set rfl rfl, hs, pr4_2, pr5_3⟩
  · rintro L f w _ hL ⟨b9, b11, Iq, hleq, rfl, hs, pr4_2, pr5_3⟩
    replace hy1 := hy1.mono hleq
    replace hb1 := hb1.mono hleq
    replace hy2_2 := hy2_2.mono hleq
    replace hb2 := hb2.mono hleq
    replace hb3 := hb3.mono hleq
    replace hb5 := hb5.mono hleq
    refine ow_load (k := 2) (vs := [.int .i64 x0_0, .int .i64 x0_1, .int .i64 x0_2, .int .i64 x0_3, .int .i64 x0_4, .int .i64 x0_5]) (v := .agg #[.int .i64 x0_0, .int .i64 x0_1, .int .i64 x0_2, .int .i64 x0_3, .int .i64 x0_4, .int .i64 x0_5]) hs rfl rfl ty49 rfl rfl rfl ?_
    exact ow_nil ⟨rfl, rfl, b9, b11, Iq, hleq, frL_set rfl rfl, hs, pr4_2, pr5_3⟩
  · rintro L f w _ hL ⟨b9, b11, Iq, hleq, rfl, hs, pr4_2, pr5_3⟩
    replace hy1 := hy1.mono hleq
    replace hb1 := hb1.mono hleq
    replace hy2_2 := hy2_2.mono hleq
    replace hb2 := hb2.mono hleq
    replace hb3 := hb3.mono hleq
    replace hb5 := hb5.mono hleq
    replace hs := hs.eqv (k := 0) rfl ((rL_f (show L 4 = false from pfalse pr4_2 hL) ((rL_f hL (rL_n)))))
    refine ow_alloc hs ty49 rfl ?_
    clear hs; intro b9 w hs
    replace hs := hs.setE (k := 0) rfl
    replace hs := hs.eqv (k := 0) rfl (Eq.symm (a := rL [(4, blk b9 49 [.int .i64 x0_0, .int .i64 x0_1, .int .i64 x0_2, .int .i64 x0_3, .int .i64 x0_4, .int .i64 x0_5]), (2, blk b9 49 [.int .i64 0, .int .i64 0, .int .i64 0, .int .i64 0, .int .i64 0, .int .i64 0])] emp (setL L 2)) (((rL_f (L := setL L 2) (show L 4 = false from pfalse pr4_2 hL) (rL_t (L := setL L 2) rfl)))))
    exact ow_nil ⟨rfl, rfl, b9, b11, Iq, hleq, (Eq.trans (frL_setG (i := 2) rfl rfl) (rfl)), hs, (fun _ => rfl), pr5_3⟩
  · rintro L f w _ hL ⟨b9, b11, Iq, hleq, rfl, hs, pr4_2, pr5_3⟩
    replace hy1 := hy1.mono hleq
    replace hb1 := hb1.mono hleq
    replace hy2_2 := hy2_2.mono hleq
    replace hb2 := hb2.mono hleq
    replace hb3 := hb3.mono hleq
    replace hb5 := hb5.mono hleq
    replace hs := hs.eqv (k := 1) rfl ((rL_f (show L 5 = false from pfalse pr5_3 hL) ((rL_f hL (rL_n)))))
    refine ow_alloc hs ty49 rfl ?_
    clear hs; intro b11 w hs
    replace hs := hs.setE (k := 1) rfl
    replace hs := hs.eqv (k := 1) rfl (Eq.symm (a := rL [(5, blk b11 49 [.int .i64 x0_0, .int .i64 x0_1, .int .i64 x0_2, .int .i64 x0_3, .int .i64 x0_4, .int .i64 x0_5]), (3, blk b11 49 [.int .i64 0, .int .i64 0, .int .i64 0, .int .i64 0, .int .i64 0, .int .i64 0])] emp (setL L 3)) (((rL_f (L := setL L 3) (show L 5 = false from pfalse pr5_3 hL) (rL_t (L := setL L 3) rfl)))))
    exact ow_nil ⟨rfl, rfl, b9, b11, Iq, hleq, (Eq.trans (frL_setG (i := 3) rfl rfl) (rfl)), hs, pr4_2, (fun _ => rfl)⟩
  · rintro L f w ⟨hL2, hL0, _, _, hL3, _⟩ hL ⟨b9, b11, Iq, hleq, rfl, hs, pr4_2, pr5_3⟩
    replace hy1 := hy1.mono hleq
    replace hb1 := hb1.mono hleq
    replace hy2_2 := hy2_2.mono hleq
    replace hb2 := hb2.mono hleq
    replace hb3 := hb3.mono hleq
    replace hb5 := hb5.mono hleq
    replace hs := hs.eqv (k := 0) rfl ((rL_f hL (rL_t hL2)))
    refine ow_store (k := 0) (vs := [.int .i64 x0_0, .int .i64 x0_1, .int .i64 x0_2, .int .i64 x0_3, .int .i64 x0_4, .int .i64 x0_5]) (cs' := [.int .i64 x0_0, .int .i64 x0_1, .int .i64 x0_2, .int .i64 x0_3, .int .i64 x0_4, .int .i64 x0_5]) hs rfl (frL_get rfl hL2) (frL_get rfl hL0) ty49 rfl rfl (Nat.le_of_ble_eq_true rfl) rfl rfl ?_
    clear hs; intro w hs
    exact ow_nil ⟨rfl, rfl, b9, b11, Iq, hleq, frL_no rfl, hs, (fun _ => hL2), pr5_3⟩
  · rintro L f w ⟨hL3, hL1, hL4, hL0, _, hL2, _, _, _⟩ hL ⟨b9, b11, Iq, hleq, rfl, hs, pr4_2, pr5_3⟩
    replace hy1 := hy1.mono hleq
    replace hb1 := hb1.mono hleq
    replace hy2_2 := hy2_2.mono hleq
    replace hb2 := hb2.mono hleq
    replace hb3 := hb3.mono hleq
    replace hb5 := hb5.mono hleq
    replace hs := hs.eqv (k := 1) rfl ((rL_f hL (rL_t hL3)))
    refine ow_store (k := 1) (vs := [.int .i64 x0_0, .int .i64 x0_1, .int .i64 x0_2, .int .i64 x0_3, .int .i64 x0_4, .int .i64 x0_5]) (cs' := [.int .i64 x0_0, .int .i64 x0_1, .int .i64 x0_2, .int .i64 x0_3, .int .i64 x0_4, .int .i64 x0_5]) hs rfl (frL_get rfl hL3) (frL_get rfl hL1) ty49 rfl rfl (Nat.le_of_ble_eq_true rfl) rfl rfl ?_
    clear hs; intro w hs
    exact ow_nil ⟨rfl, rfl, b9, b11, Iq, hleq, frL_no rfl, hs, pr4_2, (fun _ => hL3)⟩
  rintro L f w hall ⟨b9, b11, I14, hle13, rfl, hs, _, _⟩
  rw [frL_tt _ rfl hall]
  replace hs := hs.eqv (k := 0) rfl (rL_t (hall 4 (Nat.le_of_ble_eq_true rfl)))
  replace hs := hs.eqv (k := 1) rfl (rL_t (hall 5 (Nat.le_of_ble_eq_true rfl)))
  replace hy1 := hy1.mono hle13
  replace hb1 := hb1.mono hle13
  replace hy2_2 := hy2_2.mono hle13
  replace hb2 := hb2.mono hle13
  replace hb3 := hb3.mono hle13
  replace hb5 := hb5.mono hle13
  refine seqK_n ?_
  refine cw_seq ?_
  refine cw_block ?_
  refine cw_seq ?_
  refine cw_region ?_
  refine ow_v (x_move (v := .int .i64 r3) rfl) rfl ?_
  refine ow_loadI (vs := [.int .i64 y3]) (v := .int .i64 y3) hs hb3 rfl ty3 rfl rfl rfl ?_
  refine ow_v (x_gtr (k := .i64) (a := r3) (b := y3) rfl rfl) rfl ?_
  refine ow_v (x_assign (v := .bool (decide (y3 < r3))) rfl) rfl ?_
  refine ow_nil ?_
  refine seqK_n ?_
  by_cases hc15 : y3 < r3
  · rw [if_pos hc15] at hm
    refine cw_if_t rfl (decide_eq_true hc15) ?_
    refine cw_seq ?_
    refine cw_region ?_
    refine ow_field (b := b4_) (o := 0) fl32_1 rfl ?_
    refine ow_load (k := 3) (vs := [.slice ay4_1 y4_1.length cy4_1]) (v := .slice ay4_1 y4_1.length cy4_1) hs rfl rfl ty30 rfl rfl rfl ?_
    refine ow_load (k := 2) (vs := [.int .i64 x0_0, .int .i64 x0_1, .int .i64 x0_2, .int .i64 x0_3, .int .i64 x0_4, .int .i64 x0_5]) (v := .agg #[.int .i64 x0_0, .int .i64 x0_1, .int .i64 x0_2, .int .i64 x0_3, .int .i64 x0_4, .int .i64 x0_5]) hs rfl rfl ty49 rfl rfl rfl ?_
    refine ow_buildSlice (vp := [(0, .agg #[.int .i64 x0_0, .int .i64 x0_1, .int .i64 x0_2, .int .i64 x0_3, .int .i64 x0_4, .int .i64 x0_5])]) (cs := [.int .i64 x0_0, .int .i64 x0_1, .int .i64 x0_2, .int .i64 x0_3, .int .i64 x0_4, .int .i64 x0_5]) hs sl30 ty49 rfl ⟨rfl, rfl, trivial⟩ (by decide) rfl (by decide) ?_
    clear hs; intro a18 J16 w hle17 hs hR19
    replace hy1 := hy1.mono hle17
    replace hb1 := hb1.mono hle17
    replace hy2_2 := hy2_2.mono hle17
    replace hb2 := hb2.mono hle17
    replace hb3 := hb3.mono hle17
    replace hb5 := hb5.mono hle17
    replace hR19 : Rs J16 6 a18 [(x0_0, x0_1, x0_2, x0_3, x0_4, x0_5)].length 1 ([(x0_0, x0_1, x0_2, x0_3, x0_4, x0_5)].flatMap enc49) := hR19
    have hg20 := (ite_some hm).1
    replace hm := (ite_some hm).2
    refine ow_appendT (k := 5) (enc := enc49) (X := y4_1) (Y := [(x0_0, x0_1, x0_2, x0_3, x0_4, x0_5)]) hs rfl sl30 ty49 el49 rfl rfl rfl hR19 (fun _ => rfl) hg20 (by decide) ?_
    clear hs; intro a21 c22 w hs
    refine ow_field (b := b4_) (o := 0) fl32_1 rfl ?_
    refine ow_store (k := 3) (vs := [.slice a21 ((y4_1 ++ [(x0_0, x0_1, x0_2, x0_3, x0_4, x0_5)]).length) c22]) (cs' := [.slice ay4_0 y4_0.length cy4_0, .slice a21 ((y4_1 ++ [(x0_0, x0_1, x0_2, x0_3, x0_4, x0_5)]).length) c22]) hs rfl rfl rfl ty30 rfl rfl (Nat.le_of_ble_eq_true rfl) rfl rfl ?_
    clear hs; intro w hs
    refine ow_nil ?_
    refine seqK_n ?_
    refine cw_ret ?_
    refine blockK_r ?_
    refine seqK_r ?_
    refine ret_ok (rs := []) (vs := []) (.inr rfl) rfl trivial ?_
    obtain rfl := Option.some.inj hm
    replace hs := hs.erase 0
    replace hs := hs.erase 0
    replace hs := hs.erase 0
    exact ⟨J16, ay4_0, cy4_0, a21, c22, (((hle6.trans hle7).trans hle13).trans hle17), hs, rfl⟩
  · rw [if_neg hc15] at hm
    refine cw_if_f rfl (decide_eq_false hc15) ?_
    refine cw_seq ?_
    refine cw_region ?_
    refine ow_v (x_move (v := .int .i64 (w64 (x0_2 - x0_0))) rfl) rfl ?_
    refine ow_v (x_eql (k := .i64) (a := (w64 (x0_2 - x0_0))) (b := 0) rfl rfl) rfl ?_
    refine ow_v (x_move (v := .bool (decide ((w64 (x0_2 - x0_0)) = 0))) rfl) rfl ?_
    obtain ⟨b23, hmb23, hm2⟩ := bind_some hm
    replace hm := hm2; clear hm2
    refine ow_joinN 3 (fun f ds w => ∃ (I24 : Im), ds = [] ∧ Im.le I14 I24 ∧ Sat I24 (blk b9 49 [.int .i64 x0_0, .int .i64 x0_1, .int .i64 x0_2, .int .i64 x0_3, .int .i64 x0_4, .int .i64 x0_5] :: blk b11 49 [.int .i64 x0_0, .int .i64 x0_1, .int .i64 x0_2, .int .i64 x0_3, .int .i64 x0_4, .int .i64 x0_5] :: blk b1 49 [.int .i64 x0_0, .int .i64 x0_1, .int .i64 x0_2, .int .i64 x0_3, .int .i64 x0_4, .int .i64 x0_5] :: blk b4_ 32 [.slice ay4_0 y4_0.length cy4_0, .slice ay4_1 y4_1.length cy4_1] :: osl 40 5 ay4_0 y4_0.length cy4_0 (y4_0.flatMap enc40) :: osl 49 6 ay4_1 y4_1.length cy4_1 (y4_1.flatMap enc49) :: F) w ∧ f 55 = .bool b23 ∧ f 4 = .pointer (some ⟨b4_, 0, none⟩) ∧ f 5 = .pointer (some ⟨b5_, 0, none⟩) ∧ f 6 = .pointer (some ⟨b1, 0, none⟩) ∧ f 7 = .int .i64 r3 ∧ f 8 = .int .i64 (w64 (x0_2 - x0_0)) ∧ f 9 = .int .i64 (w64 (x0_3 - x0_1)) ∧ f 10 = .pointer (some ⟨b9, 0, none⟩) ∧ f 11 = .pointer (some ⟨b11, 0, none⟩)) ?_ ?_
    · by_cases hc26 : (w64 (x0_2 - x0_0)) = 0
      · rw [if_pos hc26] at hmb23
        refine ow_go (yl_of rfl rfl (decide_eq_true hc26)) ?_
        refine ow_v (x_move (v := .int .i64 (w64 (x0_3 - x0_1))) rfl) rfl ?_
        refine ow_go (yl_of rfl rfl (decide_eq_true hc26)) ?_
        refine ow_v (x_eql (k := .i64) (a := (w64 (x0_3 - x0_1))) (b := 0) rfl rfl) rfl ?_
        refine ow_v (x_pick_t (v := .bool (decide ((w64 (x0_3 - x0_1)) = 0))) ((rfl : ev _ _ _ = _).trans (congrArg Value.bool (decide_eq_true hc26))) rfl) rfl ?_
        refine ow_nil ?_
        obtain rfl := Option.some.inj hmb23
        exact ⟨I14, rfl, Im.le.refl _, hs, rfl, rfl, rfl, rfl, rfl, rfl, rfl, rfl, rfl⟩
      · rw [if_neg hc26] at hmb23
        refine ow_no (b := false) (yl_of rfl rfl (decide_eq_false hc26)) rfl ?_
        refine ow_no (b := false) (yl_of rfl rfl (decide_eq_false hc26)) rfl ?_
        refine ow_v (x_pick_f (v := .bool false) ((rfl : ev _ _ _ = _).trans (congrArg Value.bool (decide_eq_false hc26))) rfl) rfl ?_
        refine ow_nil ?_
        obtain rfl := Option.some.inj hmb23
        exact ⟨I14, rfl, Im.le.refl _, hs, rfl, rfl, rfl, rfl, rfl, rfl, rfl, rfl, rfl⟩
    · clear hmb23 hs
      rintro f ds w ⟨I24, rfl, hle25, hs, htbb23, ht4_b23, ht5_b23, ht6_b23, ht7_b23, ht8_b23, ht9_b23, ht10_b23, ht11_b23⟩
      replace hy1 := hy1.mono hle25
      replace hb1 := hb1.mono hle25
      replace hy2_2 := hy2_2.mono hle25
      replace hb2 := hb2.mono hle25
      replace hb3 := hb3.mono hle25
      replace hb5 := hb5.mono hle25
      refine ow_v (x_assign (v := .bool b23) htbb23) rfl ?_
      refine ow_nil ?_
      refine seqK_n ?_
      by_cases hc27 : b23 = true
      · rw [if_pos hc27] at hm
        refine cw_if_t rfl hc27 ?_
        refine cw_seq ?_
        refine cw_region ?_
        refine ow_field (b := b4_) (o := 0) fl32_0 ht4_b23 ?_
        refine ow_load (k := 3) (vs := [.slice ay4_0 y4_0.length cy4_0]) (v := .slice ay4_0 y4_0.length cy4_0) hs rfl rfl ty29 rfl rfl rfl ?_
        refine ow_field (b := b1) (o := 0) fl49_0 ht6_b23 ?_
        refine ow_load (k := 2) (vs := [.int .i64 x0_0]) (v := .int .i64 x0_0) hs rfl rfl ty3 rfl rfl rfl ?_
        refine ow_field (b := b1) (o := 0) fl49_1 ht6_b23 ?_
        refine ow_load (k := 2) (vs := [.int .i64 x0_1]) (v := .int .i64 x0_1) hs rfl rfl ty3 rfl rfl rfl ?_
        refine ow_field (b := b1) (o := 0) fl49_4 ht6_b23 ?_
        refine ow_load (k := 2) (vs := [.int .i64 x0_4]) (v := .int .i64 x0_4) hs rfl rfl ty3 rfl rfl rfl ?_
        refine ow_field (b := b1) (o := 0) fl49_5 ht6_b23 ?_
        refine ow_load (k := 2) (vs := [.int .i64 x0_5]) (v := .int .i64 x0_5) hs rfl rfl ty3 rfl rfl rfl ?_
        refine ow_build (vp := [(0, .int .i64 x0_0), (1, .int .i64 x0_1), (2, .int .i64 x0_4), (3, .int .i64 x0_5)]) (cs := [.int .i64 x0_0, .int .i64 x0_1, .int .i64 x0_4, .int .i64 x0_5]) st38 ty38 ⟨rfl, rfl, rfl, rfl, rfl, rfl, rfl, rfl, trivial⟩ rfl ?_
        refine ow_v (x_move (v := .int .i64 r3) ht7_b23) rfl ?_
        refine ow_build (vp := [(0, .agg #[.int .i64 x0_0, .int .i64 x0_1, .int .i64 x0_4, .int .i64 x0_5]), (1, .int .i64 r3)]) (cs := [.int .i64 x0_0, .int .i64 x0_1, .int .i64 x0_4, .int .i64 x0_5, .int .i64 r3]) st40 ty40 ⟨rfl, rfl, rfl, rfl, trivial⟩ rfl ?_
        refine ow_buildSlice (vp := [(0, .agg #[.int .i64 x0_0, .int .i64 x0_1, .int .i64 x0_4, .int .i64 x0_5, .int .i64 r3])]) (cs := [.int .i64 x0_0, .int .i64 x0_1, .int .i64 x0_4, .int .i64 x0_5, .int .i64 r3]) hs sl29 ty40 rfl ⟨rfl, rfl, trivial⟩ (by decide) rfl (by decide) ?_
        clear hs; intro a30 J28 w hle29 hs hR31
        replace hy1 := hy1.mono hle29
        replace hb1 := hb1.mono hle29
        replace hy2_2 := hy2_2.mono hle29
        replace hb2 := hb2.mono hle29
        replace hb3 := hb3.mono hle29
        replace hb5 := hb5.mono hle29
        replace hR31 : Rs J28 5 a30 [(x0_0, x0_1, x0_4, x0_5, r3)].length 1 ([(x0_0, x0_1, x0_4, x0_5, r3)].flatMap enc40) := hR31
        have hg32 := (ite_some hm).1
        replace hm := (ite_some hm).2
        refine ow_appendT (k := 4) (enc := enc40) (X := y4_0) (Y := [(x0_0, x0_1, x0_4, x0_5, r3)]) hs rfl sl29 ty40 el40 rfl rfl rfl hR31 (fun _ => rfl) hg32 (by decide) ?_
        clear hs; intro a33 c34 w hs
        refine ow_field (b := b4_) (o := 0) fl32_0 ht4_b23 ?_
        refine ow_store (k := 3) (vs := [.slice a33 ((y4_0 ++ [(x0_0, x0_1, x0_4, x0_5, r3)]).length) c34]) (cs' := [.slice a33 ((y4_0 ++ [(x0_0, x0_1, x0_4, x0_5, r3)]).length) c34, .slice ay4_1 y4_1.length cy4_1]) hs rfl rfl rfl ty29 rfl rfl (Nat.le_of_ble_eq_true rfl) rfl rfl ?_
        clear hs; intro w hs
        refine ow_nil ?_
        refine seqK_n ?_
        refine cw_ret ?_
        refine blockK_r ?_
        refine seqK_r ?_
        refine ret_ok (rs := []) (vs := []) (.inr rfl) rfl trivial ?_
        obtain rfl := Option.some.inj hm
        replace hs := hs.erase 0
        replace hs := hs.erase 0
        replace hs := hs.erase 0
        exact ⟨J28, a33, c34, ay4_1, cy4_1, ((((hle6.trans hle7).trans hle13).trans hle25).trans hle29), hs, rfl⟩
      · rw [if_neg hc27] at hm
        refine cw_if_f rfl (Bool.eq_false_iff.2 hc27) ?_
        refine cw_seq ?_
        refine cw_region ?_
        refine ow_v (x_move (v := .int .i64 (w64 (x0_2 - x0_0))) ht8_b23) rfl ?_
        refine ow_v (x_move (v := .int .i64 (w64 (x0_3 - x0_1))) ht9_b23) rfl ?_
        refine ow_v (x_geq (k := .i64) (a := (w64 (x0_2 - x0_0))) (b := (w64 (x0_3 - x0_1))) rfl rfl) rfl ?_
        refine ow_v (x_assign (v := .bool (decide ((w64 (x0_3 - x0_1)) ≤ (w64 (x0_2 - x0_0))))) rfl) rfl ?_
        refine ow_nil ?_
        refine seqK_n ?_
        by_cases hc35 : (w64 (x0_3 - x0_1)) ≤ (w64 (x0_2 - x0_0))
        · rw [if_pos hc35] at hm
          refine cw_if_t rfl (decide_eq_true hc35) ?_
          refine cw_seq ?_
          refine cw_region ?_
          refine ow_field (b := b1) (o := 0) fl49_0 ht6_b23 ?_
          refine ow_load (k := 2) (vs := [.int .i64 x0_0]) (v := .int .i64 x0_0) hs rfl rfl ty3 rfl rfl rfl ?_
          refine ow_field (b := b1) (o := 0) fl49_2 ht6_b23 ?_
          refine ow_load (k := 2) (vs := [.int .i64 x0_2]) (v := .int .i64 x0_2) hs rfl rfl ty3 rfl rfl rfl ?_
          refine ow_v (x_add (k := .i64) (a := x0_0) (b := x0_2) rfl rfl) rfl ?_
          refine ow_v (x_shrL (k := .i64) (a := (w64 (x0_0 + x0_2))) (b := 1) (m := 2) rfl rfl (by decide) (by decide)) rfl ?_
          refine ow_field (b := b9) (o := 0) fl49_2 ht10_b23 ?_
          refine ow_store (k := 0) (vs := [.int .i64 ((w64 (x0_0 + x0_2)) / 2)]) (cs' := [.int .i64 x0_0, .int .i64 x0_1, .int .i64 ((w64 (x0_0 + x0_2)) / 2), .int .i64 x0_3, .int .i64 x0_4, .int .i64 x0_5]) hs rfl rfl rfl ty3 rfl rfl (Nat.le_of_ble_eq_true rfl) rfl rfl ?_
          clear hs; intro w hs
          refine ow_nil ?_
          refine seqK_n ?_
          refine cw_region ?_
          refine ow_field (b := b9) (o := 0) fl49_2 ht10_b23 ?_
          refine ow_load (k := 0) (vs := [.int .i64 ((w64 (x0_0 + x0_2)) / 2)]) (v := .int .i64 ((w64 (x0_0 + x0_2)) / 2)) hs rfl rfl ty3 rfl rfl rfl ?_
          refine ow_v (x_add (k := .i64) (a := ((w64 (x0_0 + x0_2)) / 2)) (b := 1) rfl rfl) rfl ?_
          refine ow_field (b := b11) (o := 0) fl49_0 ht11_b23 ?_
          refine ow_store (k := 1) (vs := [.int .i64 (w64 (((w64 (x0_0 + x0_2)) / 2) + 1))]) (cs' := [.int .i64 (w64 (((w64 (x0_0 + x0_2)) / 2) + 1)), .int .i64 x0_1, .int .i64 x0_2, .int .i64 x0_3, .int .i64 x0_4, .int .i64 x0_5]) hs rfl rfl rfl ty3 rfl rfl (Nat.le_of_ble_eq_true rfl) rfl rfl ?_
          clear hs; intro w hs
          refine ow_nil ?_
          refine blockK_n ?_
          refine seqK_n ?_
          refine cw_seq ?_
          refine cw_region ?_
          refine ow_loadI (vs := [.func (.func 12) #[] #[.pointer (some ⟨b1_, 0, none⟩), .pointer (some ⟨b2_, 0, none⟩), .pointer (some ⟨b3_, 0, none⟩), .pointer (some ⟨b4_, 0, none⟩), .pointer (some ⟨b5_, 0, none⟩)]]) (v := .func (.func 12) #[] #[.pointer (some ⟨b1_, 0, none⟩), .pointer (some ⟨b2_, 0, none⟩), .pointer (some ⟨b3_, 0, none⟩), .pointer (some ⟨b4_, 0, none⟩), .pointer (some ⟨b5_, 0, none⟩)]) hs hb5 ht5_b23 ty53 rfl rfl rfl ?_
          refine ow_load (k := 0) (vs := [.int .i64 x0_0, .int .i64 x0_1, .int .i64 ((w64 (x0_0 + x0_2)) / 2), .int .i64 x0_3, .int .i64 x0_4, .int .i64 x0_5]) (v := .agg #[.int .i64 x0_0, .int .i64 x0_1, .int .i64 ((w64 (x0_0 + x0_2)) / 2), .int .i64 x0_3, .int .i64 x0_4, .int .i64 x0_5]) hs rfl ht10_b23 ty49 rfl rfl rfl ?_
          replace hs := hs.front (k := 5) rfl
          replace hs := hs.front (k := 5) rfl
          replace hs := hs.front (k := 5) rfl
          obtain ⟨r36, hr37, hm2⟩ := bind_some hm
          replace hm := hm2; clear hm2
          refine ow_call (fi := []) (vs := [.agg #[.int .i64 x0_0, .int .i64 x0_1, .int .i64 ((w64 (x0_0 + x0_2)) / 2), .int .i64 x0_3, .int .i64 x0_4, .int .i64 x0_5]]) (ca := [.pointer (some ⟨b1_, 0, none⟩), .pointer (some ⟨b2_, 0, none⟩), .pointer (some ⟨b3_, 0, none⟩), .pointer (some ⟨b4_, 0, none⟩), .pointer (some ⟨b5_, 0, none⟩)]) rfl ⟨rfl, trivial⟩ en12 (ih _ _ _ _ _ _ _ _ _ _ _ _ _ hr37 hs hy1 hb1 hy2_2 hb2 hb3 hb5) ?_
          clear hs; rintro _ w ⟨J38, az40_p4_0, cz40_p4_0, az40_p4_1, cz40_p4_1, hle39, hs, rfl⟩
          replace hy1 := hy1.mono hle39
          replace hb1 := hb1.mono hle39
          replace hy2_2 := hy2_2.mono hle39
          replace hb2 := hb2.mono hle39
          replace hb3 := hb3.mono hle39
          replace hb5 := hb5.mono hle39
          refine ow_nil ?_
          refine seqK_n ?_
          refine cw_region ?_
          refine ow_loadI (vs := [.func (.func 12) #[] #[.pointer (some ⟨b1_, 0, none⟩), .pointer (some ⟨b2_, 0, none⟩), .pointer (some ⟨b3_, 0, none⟩), .pointer (some ⟨b4_, 0, none⟩), .pointer (some ⟨b5_, 0, none⟩)]]) (v := .func (.func 12) #[] #[.pointer (some ⟨b1_, 0, none⟩), .pointer (some ⟨b2_, 0, none⟩), .pointer (some ⟨b3_, 0, none⟩), .pointer (some ⟨b4_, 0, none⟩), .pointer (some ⟨b5_, 0, none⟩)]) hs hb5 ht5_b23 ty53 rfl rfl rfl ?_
          refine ow_load (k := 4) (vs := [.int .i64 (w64 (((w64 (x0_0 + x0_2)) / 2) + 1)), .int .i64 x0_1, .int .i64 x0_2, .int .i64 x0_3, .int .i64 x0_4, .int .i64 x0_5]) (v := .agg #[.int .i64 (w64 (((w64 (x0_0 + x0_2)) / 2) + 1)), .int .i64 x0_1, .int .i64 x0_2, .int .i64 x0_3, .int .i64 x0_4, .int .i64 x0_5]) hs rfl ht11_b23 ty49 rfl rfl rfl ?_
          obtain ⟨r41, hr42, hm2⟩ := bind_some hm
          replace hm := hm2; clear hm2
          refine ow_call (fi := []) (vs := [.agg #[.int .i64 (w64 (((w64 (x0_0 + x0_2)) / 2) + 1)), .int .i64 x0_1, .int .i64 x0_2, .int .i64 x0_3, .int .i64 x0_4, .int .i64 x0_5]]) (ca := [.pointer (some ⟨b1_, 0, none⟩), .pointer (some ⟨b2_, 0, none⟩), .pointer (some ⟨b3_, 0, none⟩), .pointer (some ⟨b4_, 0, none⟩), .pointer (some ⟨b5_, 0, none⟩)]) rfl ⟨rfl, trivial⟩ en12 (ih _ _ _ _ _ _ _ _ _ _ _ _ _ hr42 hs hy1 hb1 hy2_2 hb2 hb3 hb5) ?_
          clear hs; rintro _ w ⟨J43, az45_p4_0, cz45_p4_0, az45_p4_1, cz45_p4_1, hle44, hs, rfl⟩
          replace hy1 := hy1.mono hle44
          replace hb1 := hb1.mono hle44
          replace hy2_2 := hy2_2.mono hle44
          replace hb2 := hb2.mono hle44
          replace hb3 := hb3.mono hle44
          replace hb5 := hb5.mono hle44
          refine ow_nil ?_
          refine ret_ok (rs := []) (vs := []) (.inl rfl) rfl trivial ?_
          obtain rfl := Option.some.inj hm
          replace hs := hs.erase 3
          replace hs := hs.erase 3
          replace hs := hs.erase 3
          exact ⟨J43, az45_p4_0, cz45_p4_0, az45_p4_1, cz45_p4_1, (((((hle6.trans hle7).trans hle13).trans hle25).trans hle39).trans hle44), hs, rfl⟩
        · rw [if_neg hc35] at hm
          refine cw_if_f rfl (decide_eq_false hc35) ?_
          refine cw_seq ?_
          refine cw_region ?_
          refine ow_field (b := b1) (o := 0) fl49_1 ht6_b23 ?_
          refine ow_load (k := 2) (vs := [.int .i64 x0_1]) (v := .int .i64 x0_1) hs rfl rfl ty3 rfl rfl rfl ?_
          refine ow_field (b := b1) (o := 0) fl49_3 ht6_b23 ?_
          refine ow_load (k := 2) (vs := [.int .i64 x0_3]) (v := .int .i64 x0_3) hs rfl rfl ty3 rfl rfl rfl ?_
          refine ow_v (x_add (k := .i64) (a := x0_1) (b := x0_3) rfl rfl) rfl ?_
          refine ow_v (x_shrL (k := .i64) (a := (w64 (x0_1 + x0_3))) (b := 1) (m := 2) rfl rfl (by decide) (by decide)) rfl ?_
          refine ow_field (b := b9) (o := 0) fl49_3 ht10_b23 ?_
          refine ow_store (k := 0) (vs := [.int .i64 ((w64 (x0_1 + x0_3)) / 2)]) (cs' := [.int .i64 x0_0, .int .i64 x0_1, .int .i64 x0_2, .int .i64 ((w64 (x0_1 + x0_3)) / 2), .int .i64 x0_4, .int .i64 x0_5]) hs rfl rfl rfl ty3 rfl rfl (Nat.le_of_ble_eq_true rfl) rfl rfl ?_
          clear hs; intro w hs
          refine ow_nil ?_
          refine seqK_n ?_
          refine cw_region ?_
          refine ow_field (b := b9) (o := 0) fl49_3 ht10_b23 ?_
          refine ow_load (k := 0) (vs := [.int .i64 ((w64 (x0_1 + x0_3)) / 2)]) (v := .int .i64 ((w64 (x0_1 + x0_3)) / 2)) hs rfl rfl ty3 rfl rfl rfl ?_
          refine ow_v (x_add (k := .i64) (a := ((w64 (x0_1 + x0_3)) / 2)) (b := 1) rfl rfl) rfl ?_
          refine ow_field (b := b11) (o := 0) fl49_1 ht11_b23 ?_
          refine ow_store (k := 1) (vs := [.int .i64 (w64 (((w64 (x0_1 + x0_3)) / 2) + 1))]) (cs' := [.int .i64 x0_0, .int .i64 (w64 (((w64 (x0_1 + x0_3)) / 2) + 1)), .int .i64 x0_2, .int .i64 x0_3, .int .i64 x0_4, .int .i64 x0_5]) hs rfl rfl rfl ty3 rfl rfl (Nat.le_of_ble_eq_true rfl) rfl rfl ?_
          clear hs; intro w hs
          refine ow_nil ?_
          refine blockK_n ?_
          refine seqK_n ?_
          refine cw_seq ?_
          refine cw_region ?_
          refine ow_loadI (vs := [.func (.func 12) #[] #[.pointer (some ⟨b1_, 0, none⟩), .pointer (some ⟨b2_, 0, none⟩), .pointer (some ⟨b3_, 0, none⟩), .pointer (some ⟨b4_, 0, none⟩), .pointer (some ⟨b5_, 0, none⟩)]]) (v := .func (.func 12) #[] #[.pointer (some ⟨b1_, 0, none⟩), .pointer (some ⟨b2_, 0, none⟩), .pointer (some ⟨b3_, 0, none⟩), .pointer (some ⟨b4_, 0, none⟩), .pointer (some ⟨b5_, 0, none⟩)]) hs hb5 ht5_b23 ty53 rfl rfl rfl ?_
          refine ow_load (k := 0) (vs := [.int .i64 x0_0, .int .i64 x0_1, .int .i64 x0_2, .int .i64 ((w64 (x0_1 + x0_3)) / 2), .int .i64 x0_4, .int .i64 x0_5]) (v := .agg #[.int .i64 x0_0, .int .i64 x0_1, .int .i64 x0_2, .int .i64 ((w64 (x0_1 + x0_3)) / 2), .int .i64 x0_4, .int .i64 x0_5]) hs rfl ht10_b23 ty49 rfl rfl rfl ?_
          replace hs := hs.front (k := 5) rfl
          replace hs := hs.front (k := 5) rfl
          replace hs := hs.front (k := 5) rfl
          obtain ⟨r46, hr47, hm2⟩ := bind_some hm
          replace hm := hm2; clear hm2
          refine ow_call (fi := []) (vs := [.agg #[.int .i64 x0_0, .int .i64 x0_1, .int .i64 x0_2, .int .i64 ((w64 (x0_1 + x0_3)) / 2), .int .i64 x0_4, .int .i64 x0_5]]) (ca := [.pointer (some ⟨b1_, 0, none⟩), .pointer (some ⟨b2_, 0, none⟩), .pointer (some ⟨b3_, 0, none⟩), .pointer (some ⟨b4_, 0, none⟩), .pointer (some ⟨b5_, 0, none⟩)]) rfl ⟨rfl, trivial⟩ en12 (ih _ _ _ _ _ _ _ _ _ _ _ _ _ hr47 hs hy1 hb1 hy2_2 hb2 hb3 hb5) ?_
          clear hs; rintro _ w ⟨J48, az50_p4_0, cz50_p4_0, az50_p4_1, cz50_p4_1, hle49, hs, rfl⟩
          replace hy1 := hy1.mono hle49
          replace hb1 := hb1.mono hle49
          replace hy2_2 := hy2_2.mono hle49
          replace hb2 := hb2.mono hle49
          replace hb3 := hb3.mono hle49
          replace hb5 := hb5.mono hle49
          refine ow_nil ?_
          refine seqK_n ?_
          refine cw_region ?_
          refine ow_loadI (vs := [.func (.func 12) #[] #[.pointer (some ⟨b1_, 0, none⟩), .pointer (some ⟨b2_, 0, none⟩), .pointer (some ⟨b3_, 0, none⟩), .pointer (some ⟨b4_, 0, none⟩), .pointer (some ⟨b5_, 0, none⟩)]]) (v := .func (.func 12) #[] #[.pointer (some ⟨b1_, 0, none⟩), .pointer (some ⟨b2_, 0, none⟩), .pointer (some ⟨b3_, 0, none⟩), .pointer (some ⟨b4_, 0, none⟩), .pointer (some ⟨b5_, 0, none⟩)]) hs hb5 ht5_b23 ty53 rfl rfl rfl ?_
          refine ow_load (k := 4) (vs := [.int .i64 x0_0, .int .i64 (w64 (((w64 (x0_1 + x0_3)) / 2) + 1)), .int .i64 x0_2, .int .i64 x0_3, .int .i64 x0_4, .int .i64 x0_5]) (v := .agg #[.int .i64 x0_0, .int .i64 (w64 (((w64 (x0_1 + x0_3)) / 2) + 1)), .int .i64 x0_2, .int .i64 x0_3, .int .i64 x0_4, .int .i64 x0_5]) hs rfl ht11_b23 ty49 rfl rfl rfl ?_
          obtain ⟨r51, hr52, hm2⟩ := bind_some hm
          replace hm := hm2; clear hm2
          refine ow_call (fi := []) (vs := [.agg #[.int .i64 x0_0, .int .i64 (w64 (((w64 (x0_1 + x0_3)) / 2) + 1)), .int .i64 x0_2, .int .i64 x0_3, .int .i64 x0_4, .int .i64 x0_5]]) (ca := [.pointer (some ⟨b1_, 0, none⟩), .pointer (some ⟨b2_, 0, none⟩), .pointer (some ⟨b3_, 0, none⟩), .pointer (some ⟨b4_, 0, none⟩), .pointer (some ⟨b5_, 0, none⟩)]) rfl ⟨rfl, trivial⟩ en12 (ih _ _ _ _ _ _ _ _ _ _ _ _ _ hr52 hs hy1 hb1 hy2_2 hb2 hb3 hb5) ?_
          clear hs; rintro _ w ⟨J53, az55_p4_0, cz55_p4_0, az55_p4_1, cz55_p4_1, hle54, hs, rfl⟩
          replace hy1 := hy1.mono hle54
          replace hb1 := hb1.mono hle54
          replace hy2_2 := hy2_2.mono hle54
          replace hb2 := hb2.mono hle54
          replace hb3 := hb3.mono hle54
          replace hb5 := hb5.mono hle54
          refine ow_nil ?_
          refine ret_ok (rs := []) (vs := []) (.inl rfl) rfl trivial ?_
          obtain rfl := Option.some.inj hm
          replace hs := hs.erase 3
          replace hs := hs.erase 3
          replace hs := hs.erase 3
          exact ⟨J53, az55_p4_0, cz55_p4_0, az55_p4_1, cz55_p4_1, (((((hle6.trans hle7).trans hle13).trans hle25).trans hle49).trans hle54), hs, rfl⟩
end Go.HL.Try
