/- The walks of some functions, printed by a program of ours (gox). -/
import Derived.Test.YtllfmfoahloldaaF18
set_option linter.unusedVariables false
set_option linter.unusedSimpArgs false
set_option maxRecDepth 100000
set_option maxHeartbeats 400000
namespace Go.HL.Try
open Go.HL
attribute [local irreducible] OW CW CV
theorem en18 : Go.Proofs.Enters P 18 := Go.Proofs.enters_of Go.Proofs.Try.func18 (by kernel_rfl) rfl

-- f6 sightbench/find.Check
def f6_m (x0_0 : Int) (x0_1 : Int) (x0_2 : List Int) (x1_0 : Int) (x1_1 : Int) (x1_2 : List Int) (x2 : Int) (x3_0 : List (Int × Int × Int × Int × Int)) (x3_1 : List (Int × Int × Int × Int × Int × Int)) : Option Int :=
  ((f8_m x0_0 x0_1 x0_2 x1_0 x1_1 x1_2).bind fun r7 => (if ¬ (r7 = 0) then some r7 else ((f9_m 0 16320 [x2]).bind fun r16 => (if (!r16) = true then some 2 else ((f18_m x0_0 x0_1 x0_2 x1_0 x1_1 x1_2 x2 x3_0 x3_1).bind fun r21 => (if (!r21) = true then some 71 else some 0))))))
theorem f6_ok (x0_0 : Int) (x0_1 : Int) (x0_2 : List Int) (x1_0 : Int) (x1_1 : Int) (x1_2 : List Int) (x2 : Int) (x3_0 : List (Int × Int × Int × Int × Int)) (x3_1 : List (Int × Int × Int × Int × Int × Int)) {r : Int} (hm : f6_m x0_0 x0_1 x0_2 x1_0 x1_1 x1_2 x2 x3_0 x3_1 = some r) {ax0_2 : Option Addr} {cx0_2 : Nat} {ax1_2 : Option Addr} {cx1_2 : Nat} {ax3_0 : Option Addr} {cx3_0 : Nat} {ax3_1 : Option Addr} {cx3_1 : Nat} {I : Im} {F : List HP} {w : World} (hs : Sat I (F) w) (hx0_2 : Rs I 1 ax0_2 x0_2.length cx0_2 (x0_2.flatMap e64)) (hx1_2 : Rs I 1 ax1_2 x1_2.length cx1_2 (x1_2.flatMap e64)) (hx3_0 : Rs I 5 ax3_0 x3_0.length cx3_0 (x3_0.flatMap enc40)) (hx3_1 : Rs I 6 ax3_1 x3_1.length cx3_1 (x3_1.flatMap enc49)) :
    CV P 6 [.agg #[.int .i64 x0_0, .int .i64 x0_1, .slice ax0_2 x0_2.length cx0_2], .agg #[.int .i64 x1_0, .int .i64 x1_1, .slice ax1_2 x1_2.length cx1_2], .int .i64 x2, .agg #[.slice ax3_0 x3_0.length cx3_0, .slice ax3_1 x3_1.length cx3_1]] w fun v w' => ∃ (J : Im), Im.le I J ∧ Sat J (F) w' ∧ v = .int .i64 r := by
  unfold f6_m at hm
  refine cv_of (n := 26) Go.Proofs.Try.func6 rfl rfl (Nat.le_of_ble_eq_true rfl) ?_
  refine cw_seq ?_
  refine cw_region ?_
  refine ow_box (v := .agg #[.int .i64 x0_0, .int .i64 x0_1, .slice ax0_2 x0_2.length cx0_2]) (cs := [.int .i64 x0_0, .int .i64 x0_1, .slice ax0_2 x0_2.length cx0_2]) hs rfl rfl ?_
  clear hs; intro b1 w hs
  refine ow_box (v := .agg #[.int .i64 x1_0, .int .i64 x1_1, .slice ax1_2 x1_2.length cx1_2]) (cs := [.int .i64 x1_0, .int .i64 x1_1, .slice ax1_2 x1_2.length cx1_2]) hs rfl rfl ?_
  clear hs; intro b3 w hs
  refine ow_box (v := .agg #[.slice ax3_0 x3_0.length cx3_0, .slice ax3_1 x3_1.length cx3_1]) (cs := [.slice ax3_0 x3_0.length cx3_0, .slice ax3_1 x3_1.length cx3_1]) hs rfl rfl ?_
  clear hs; intro b5 w hs
  refine ow_v (x_assign (v := .int .i64 0) rfl) rfl ?_
  refine ow_nil ?_
  refine seqK_n ?_
  refine cw_seq ?_
  refine cw_seq ?_
  refine cw_region ?_
  refine ow_load (k := 2) (vs := [.int .i64 x0_0, .int .i64 x0_1, .slice ax0_2 x0_2.length cx0_2]) (v := .agg #[.int .i64 x0_0, .int .i64 x0_1, .slice ax0_2 x0_2.length cx0_2]) hs rfl rfl ty26 rfl rfl rfl ?_
  refine ow_load (k := 1) (vs := [.int .i64 x1_0, .int .i64 x1_1, .slice ax1_2 x1_2.length cx1_2]) (v := .agg #[.int .i64 x1_0, .int .i64 x1_1, .slice ax1_2 x1_2.length cx1_2]) hs rfl rfl ty28 rfl rfl rfl ?_
  obtain ⟨r7, hr8, hm2⟩ := bind_some hm
  replace hm := hm2; clear hm2
  refine ow_call (fi := []) (vs := [.agg #[.int .i64 x0_0, .int .i64 x0_1, .slice ax0_2 x0_2.length cx0_2], .agg #[.int .i64 x1_0, .int .i64 x1_1, .slice ax1_2 x1_2.length cx1_2]]) (ca := []) rfl ⟨rfl, rfl, trivial⟩ en8 (f8_ok _ _ _ _ _ _ hr8 hs hx0_2 hx1_2) ?_
  clear hs; rintro _ w ⟨J9, hle10, hs, rfl⟩
  replace hx0_2 := hx0_2.mono hle10
  replace hx1_2 := hx1_2.mono hle10
  replace hx3_0 := hx3_0.mono hle10
  replace hx3_1 := hx3_1.mono hle10
  refine ow_v (x_assign (v := .int .i64 r7) rfl) rfl ?_
  refine ow_nil ?_
  refine seqK_n ?_
  refine cw_seq ?_
  refine cw_region ?_
  refine ow_v (x_move (v := .int .i64 r7) rfl) rfl ?_
  refine ow_v (x_neqD (k := .i64) (a := r7) (b := 0) rfl rfl) rfl ?_
  refine ow_nil ?_
  refine seqK_n ?_
  by_cases hc11 : ¬ (r7 = 0)
  · rw [if_pos hc11] at hm
    refine cw_if_t rfl (decide_eq_true hc11) ?_
    refine cw_seq ?_
    refine cw_region ?_
    refine ow_v (x_move (v := .int .i64 r7) rfl) rfl ?_
    refine ow_v (x_assign (v := .int .i64 r7) rfl) rfl ?_
    refine ow_nil ?_
    refine seqK_n ?_
    refine cw_ret ?_
    refine seqK_r ?_
    refine ret_ok (rs := [.tmp 8]) (vs := [.int .i64 r7]) (.inr rfl) rfl ⟨rfl, trivial⟩ ?_
    obtain rfl := Option.some.inj hm
    replace hs := hs.erase 0
    replace hs := hs.erase 0
    replace hs := hs.erase 0
    exact ⟨J9, hle10, hs, rfl⟩
  · rw [if_neg hc11] at hm
    refine cw_if_f rfl (decide_eq_false hc11) ?_
    refine cw_skip ?_
    refine seqK_n ?_
    refine cw_seq ?_
    refine cw_seq ?_
    refine cw_region ?_
    refine ow_v (x_move (v := .int .i64 x2) rfl) rfl ?_
    refine ow_buildSlice (vp := [(0, .int .i64 x2)]) (cs := [.int .i64 x2]) hs sl24 ty3 rfl ⟨rfl, rfl, trivial⟩ (by decide) rfl (by decide) ?_
    clear hs; intro a14 J12 w hle13 hs hR15
    replace hx0_2 := hx0_2.mono hle13
    replace hx1_2 := hx1_2.mono hle13
    replace hx3_0 := hx3_0.mono hle13
    replace hx3_1 := hx3_1.mono hle13
    replace hR15 : Rs J12 1 a14 [x2].length 1 ([x2].flatMap e64) := hR15
    obtain ⟨r16, hr17, hm2⟩ := bind_some hm
    replace hm := hm2; clear hm2
    refine ow_call (fi := []) (vs := [.int .i64 0, .int .i64 16320, .slice a14 ([x2].length) 1]) (ca := []) rfl ⟨rfl, rfl, rfl, trivial⟩ en9 (f9_ok _ _ _ hr17 hs hR15) ?_
    clear hs; rintro _ w ⟨J18, hle19, hs, rfl⟩
    replace hx0_2 := hx0_2.mono hle19
    replace hx1_2 := hx1_2.mono hle19
    replace hx3_0 := hx3_0.mono hle19
    replace hx3_1 := hx3_1.mono hle19
    replace hR15 := hR15.mono hle19
    refine ow_v (x_not (b := r16) rfl) rfl ?_
    refine ow_nil ?_
    refine seqK_n ?_
    by_cases hc20 : (!r16) = true
    · rw [if_pos hc20] at hm
      refine cw_if_t rfl hc20 ?_
      refine cw_seq ?_
      refine cw_region ?_
      refine ow_v (x_assign (v := .int .i64 2) rfl) rfl ?_
      refine ow_nil ?_
      refine seqK_n ?_
      refine cw_ret ?_
      refine seqK_r ?_
      refine ret_ok (rs := [.tmp 8]) (vs := [.int .i64 2]) (.inr rfl) rfl ⟨rfl, trivial⟩ ?_
      obtain rfl := Option.some.inj hm
      replace hs := hs.erase 0
      replace hs := hs.erase 0
      replace hs := hs.erase 0
      exact ⟨J18, ((hle10.trans hle13).trans hle19), hs, rfl⟩
    · rw [if_neg hc20] at hm
      refine cw_if_f rfl (Bool.eq_false_iff.2 hc20) ?_
      refine cw_skip ?_
      refine seqK_n ?_
      refine cw_seq ?_
      refine cw_seq ?_
      refine cw_region ?_
      refine ow_load (k := 2) (vs := [.int .i64 x0_0, .int .i64 x0_1, .slice ax0_2 x0_2.length cx0_2]) (v := .agg #[.int .i64 x0_0, .int .i64 x0_1, .slice ax0_2 x0_2.length cx0_2]) hs rfl rfl ty26 rfl rfl rfl ?_
      refine ow_load (k := 1) (vs := [.int .i64 x1_0, .int .i64 x1_1, .slice ax1_2 x1_2.length cx1_2]) (v := .agg #[.int .i64 x1_0, .int .i64 x1_1, .slice ax1_2 x1_2.length cx1_2]) hs rfl rfl ty28 rfl rfl rfl ?_
      refine ow_v (x_move (v := .int .i64 x2) rfl) rfl ?_
      refine ow_load (k := 0) (vs := [.slice ax3_0 x3_0.length cx3_0, .slice ax3_1 x3_1.length cx3_1]) (v := .agg #[.slice ax3_0 x3_0.length cx3_0, .slice ax3_1 x3_1.length cx3_1]) hs rfl rfl ty32 rfl rfl rfl ?_
      obtain ⟨r21, hr22, hm2⟩ := bind_some hm
      replace hm := hm2; clear hm2
      refine ow_call (fi := []) (vs := [.agg #[.int .i64 x0_0, .int .i64 x0_1, .slice ax0_2 x0_2.length cx0_2], .agg #[.int .i64 x1_0, .int .i64 x1_1, .slice ax1_2 x1_2.length cx1_2], .int .i64 x2, .agg #[.slice ax3_0 x3_0.length cx3_0, .slice ax3_1 x3_1.length cx3_1]]) (ca := []) rfl ⟨rfl, rfl, rfl, rfl, trivial⟩ en18 (f18_ok _ _ _ _ _ _ _ _ _ hr22 hs hx0_2 hx1_2 hx3_0 hx3_1) ?_
      clear hs; rintro _ w ⟨J23, hle24, hs, rfl⟩
      replace hx0_2 := hx0_2.mono hle24
      replace hx1_2 := hx1_2.mono hle24
      replace hx3_0 := hx3_0.mono hle24
      replace hx3_1 := hx3_1.mono hle24
      replace hR15 := hR15.mono hle24
      refine ow_v (x_not (b := r21) rfl) rfl ?_
      refine ow_nil ?_
      refine seqK_n ?_
      by_cases hc25 : (!r21) = true
      · rw [if_pos hc25] at hm
        refine cw_if_t rfl hc25 ?_
        refine cw_seq ?_
        refine cw_region ?_
        refine ow_v (x_assign (v := .int .i64 71) rfl) rfl ?_
        refine ow_nil ?_
        refine seqK_n ?_
        refine cw_ret ?_
        refine seqK_r ?_
        refine ret_ok (rs := [.tmp 8]) (vs := [.int .i64 71]) (.inr rfl) rfl ⟨rfl, trivial⟩ ?_
        obtain rfl := Option.some.inj hm
        replace hs := hs.erase 0
        replace hs := hs.erase 0
        replace hs := hs.erase 0
        exact ⟨J23, (((hle10.trans hle13).trans hle19).trans hle24), hs, rfl⟩
      · rw [if_neg hc25] at hm
        refine cw_if_f rfl (Bool.eq_false_iff.2 hc25) ?_
        refine cw_skip ?_
        refine seqK_n ?_
        refine cw_seq ?_
        refine cw_region ?_
        refine ow_v (x_assign (v := .int .i64 0) rfl) rfl ?_
        refine ow_nil ?_
        refine seqK_n ?_
        refine cw_ret ?_
        refine ret_ok (rs := [.tmp 8]) (vs := [.int .i64 0]) (.inr rfl) rfl ⟨rfl, trivial⟩ ?_
        obtain rfl := Option.some.inj hm
        replace hs := hs.erase 0
        replace hs := hs.erase 0
        replace hs := hs.erase 0
        exact ⟨J23, (((hle10.trans hle13).trans hle19).trans hle24), hs, rfl⟩
end Go.HL.Try
