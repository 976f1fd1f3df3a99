/- The walks of some functions, printed by a program of ours (gox). -/
import Derived.Test.YtllfmfoahloldaaF14
set_option linter.unusedVariables false
set_option linter.unusedSimpArgs false
set_option maxRecDepth 100000
set_option maxHeartbeats 400000
namespace Go.HL.Try
open Go.HL
attribute [local irreducible] OW CW CV
theorem ty32 : TyC P 32 true [.slice none 0 0, .slice none 0 0] := ⟨by kernel_rfl, by kernel_rfl, (fun h => by cases h), by kernel_rfl⟩
theorem en8 : Go.Proofs.Enters P 8 := Go.Proofs.enters_of Go.Proofs.Try.func8 (by kernel_rfl) rfl
theorem st32 : StrT P 32 [(0, 1), (1, 1)] := ⟨by kernel_rfl⟩
theorem en10 : Go.Proofs.Enters P 10 := Go.Proofs.enters_of Go.Proofs.Try.func10 (by kernel_rfl) rfl
theorem en11 : Go.Proofs.Enters P 11 := Go.Proofs.enters_of Go.Proofs.Try.func11 (by kernel_rfl) rfl
theorem en14 : Go.Proofs.Enters P 14 := Go.Proofs.enters_of Go.Proofs.Try.func14 (by kernel_rfl) rfl
theorem en21 : Go.Proofs.Enters P 21 := Go.Proofs.enters_of Go.Proofs.Try.func21 (by kernel_rfl) rfl

-- f5 sightbench/find.Find
def f5_s0 (x0_0 : Int) (x0_1 : Int) (x0_2 : List Int) (x1_0 : Int) (x1_1 : Int) (x1_2 : List Int) (x2 : Int) (sv123 : (List (Int × Int × Int × Int × Int × Int)) × (List (Int × Int × Int × Int × Int))) (xe : Box6) : Option ((List (Int × Int × Int × Int × Int × Int)) × (List (Int × Int × Int × Int × Int))) :=
  ((f11_m x1_0 x1_1 x1_2 (xe.2.2.2.2.1) (xe.2.2.2.2.2)).bind fun r133 => ((f12_m FUEL (xe.1) (xe.2.1) (xe.2.2.1) (xe.2.2.2.1) (xe.2.2.2.2.1) (xe.2.2.2.2.2) r133 x0_0 x0_1 x0_2 x2 sv123.2 sv123.1).bind fun r150 => (if 0 ≤ (sv123.2.length : Int) ∧ (sv123.2.length : Int) ≤ (r150.1.length : Int) then ((sortTail r150.1 (sv123.2.length : Int).toNat).bind fun Y156 => some (r150.2, Y156)) else none)))
def f5_m (x0_0 : Int) (x0_1 : Int) (x0_2 : List Int) (x1_0 : Int) (x1_1 : Int) (x1_2 : List Int) (x2 : Int) : Option ((List (Int × Int × Int × Int × Int)) × (List (Int × Int × Int × Int × Int × Int)) × Int) :=
  ((f8_m x0_0 x0_1 x0_2 x1_0 x1_1 x1_2).bind fun r18 => (if ¬ (r18 = 0) then some ([], [], r18) else ((f9_m 0 16320 [x2]).bind fun r27 => (if (!r27) = true then some ([], [], 2) else ((itFrom (S := (List (Int × Int × Int × Int × Int × Int)) × (List (Int × Int × Int × Int × Int))) (fun j s => f5_s0 x0_0 x0_1 x0_2 x1_0 x1_1 x1_2 x2 s (theBox x0_0 x0_1 j)) 0 48 (([] : List (Int × Int × Int × Int × Int × Int)), ([] : List (Int × Int × Int × Int × Int)))).bind fun sv123 => some (sv123.2, sv123.1, 0))))))
theorem f5_ok (x0_0 : Int) (x0_1 : Int) (x0_2 : List Int) (x1_0 : Int) (x1_1 : Int) (x1_2 : List Int) (x2 : Int) {r : (List (Int × Int × Int × Int × Int)) × (List (Int × Int × Int × Int × Int × Int)) × Int} (hm : f5_m x0_0 x0_1 x0_2 x1_0 x1_1 x1_2 x2 = some r) {ax0_2 : Option Addr} {cx0_2 : Nat} {ax1_2 : Option Addr} {cx1_2 : Nat} {I : Im} {F : List HP} {w : World} (hs : Sat I (F) w) (hx0_2 : Rs I 1 ax0_2 x0_2.length cx0_2 (x0_2.flatMap e64)) (hx1_2 : Rs I 1 ax1_2 x1_2.length cx1_2 (x1_2.flatMap e64)) :
    CV P 5 [.agg #[.int .i64 x0_0, .int .i64 x0_1, .slice ax0_2 x0_2.length cx0_2], .agg #[.int .i64 x1_0, .int .i64 x1_1, .slice ax1_2 x1_2.length cx1_2], .int .i64 x2] w fun v w' => ∃ (J : Im) (a0 : Option Addr) (c0 : Nat) (a1 : Option Addr) (c1 : Nat), Im.le I J ∧ Sat J (F) w' ∧ v = .tuple #[.agg #[.slice a0 r.1.length c0, .slice a1 r.2.1.length c1], .int .i64 r.2.2] ∧ Rs J 5 a0 r.1.length c0 (r.1.flatMap enc40) ∧ Rs J 6 a1 r.2.1.length c1 (r.2.1.flatMap enc49) := by
  unfold f5_m at hm
  refine cv_ofM (n := 48) Go.Proofs.Try.func5 rfl rfl (Nat.le_of_ble_eq_true rfl) ?_
  refine cw_seq ?_
  refine cw_region ?_
  refine ow_box (v := .agg #[.int .i64 x0_0, .int .i64 x0_1, .slice ax0_2 x0_2.length cx0_2]) (cs := [.int .i64 x0_0, .int .i64 x0_1, .slice ax0_2 x0_2.length cx0_2]) hs rfl rfl ?_
  clear hs; intro b1 w hs
  obtain ⟨J3, hle4, hI5, hs⟩ := hs.freezeB
  replace hx0_2 := hx0_2.mono hle4
  replace hx1_2 := hx1_2.mono hle4
  refine ow_box (v := .agg #[.int .i64 x1_0, .int .i64 x1_1, .slice ax1_2 x1_2.length cx1_2]) (cs := [.int .i64 x1_0, .int .i64 x1_1, .slice ax1_2 x1_2.length cx1_2]) hs rfl rfl ?_
  clear hs; intro b6 w hs
  obtain ⟨J8, hle9, hI10, hs⟩ := hs.freezeB
  replace hx0_2 := hx0_2.mono hle9
  replace hx1_2 := hx1_2.mono hle9
  replace hI5 := hI5.mono hle9
  refine ow_box (v := .int .i64 x2) (cs := [.int .i64 x2]) hs rfl rfl ?_
  clear hs; intro b11 w hs
  obtain ⟨J13, hle14, hI15, hs⟩ := hs.freezeB
  replace hx0_2 := hx0_2.mono hle14
  replace hx1_2 := hx1_2.mono hle14
  replace hI5 := hI5.mono hle14
  replace hI10 := hI10.mono hle14
  refine ow_alloc hs ty32 rfl ?_
  clear hs; intro b16 w hs
  refine ow_v (x_assign (v := .int .i64 0) rfl) rfl ?_
  refine ow_nil ?_
  refine seqK_n ?_
  refine cw_seq ?_
  refine cw_seq ?_
  refine cw_region ?_
  refine ow_loadI (vs := [.int .i64 x0_0, .int .i64 x0_1, .slice ax0_2 x0_2.length cx0_2]) (v := .agg #[.int .i64 x0_0, .int .i64 x0_1, .slice ax0_2 x0_2.length cx0_2]) hs hI5 rfl ty26 rfl rfl rfl ?_
  refine ow_loadI (vs := [.int .i64 x1_0, .int .i64 x1_1, .slice ax1_2 x1_2.length cx1_2]) (v := .agg #[.int .i64 x1_0, .int .i64 x1_1, .slice ax1_2 x1_2.length cx1_2]) hs hI10 rfl ty28 rfl rfl rfl ?_
  obtain ⟨r18, hr19, hm2⟩ := bind_some hm
  replace hm := hm2; clear hm2
  refine ow_call (fi := []) (vs := [.agg #[.int .i64 x0_0, .int .i64 x0_1, .slice ax0_2 x0_2.length cx0_2], .agg #[.int .i64 x1_0, .int .i64 x1_1, .slice ax1_2 x1_2.length cx1_2]]) (ca := []) rfl ⟨rfl, rfl, trivial⟩ en8 (f8_ok _ _ _ _ _ _ hr19 hs hx0_2 hx1_2) ?_
  clear hs; rintro _ w ⟨J20, hle21, hs, rfl⟩
  replace hx0_2 := hx0_2.mono hle21
  replace hx1_2 := hx1_2.mono hle21
  replace hI5 := hI5.mono hle21
  replace hI10 := hI10.mono hle21
  replace hI15 := hI15.mono hle21
  refine ow_v (x_assign (v := .int .i64 r18) rfl) rfl ?_
  refine ow_nil ?_
  refine seqK_n ?_
  refine cw_seq ?_
  refine cw_region ?_
  refine ow_v (x_move (v := .int .i64 r18) rfl) rfl ?_
  refine ow_v (x_neqD (k := .i64) (a := r18) (b := 0) rfl rfl) rfl ?_
  refine ow_nil ?_
  refine seqK_n ?_
  by_cases hc22 : ¬ (r18 = 0)
  · rw [if_pos hc22] at hm
    refine cw_if_t rfl (decide_eq_true hc22) ?_
    refine cw_seq ?_
    refine cw_region ?_
    refine ow_build (vp := []) (cs := [.slice none 0 0, .slice none 0 0]) st32 ty32 trivial rfl ?_
    refine ow_v (x_move (v := .int .i64 r18) rfl) rfl ?_
    refine ow_store (k := 0) (vs := [.slice none 0 0, .slice none 0 0]) (cs' := [.slice none 0 0, .slice none 0 0]) hs rfl rfl rfl ty32 rfl rfl (Nat.le_of_ble_eq_true rfl) rfl rfl ?_
    clear hs; intro w hs
    refine ow_v (x_assign (v := .int .i64 r18) rfl) rfl ?_
    refine ow_nil ?_
    refine seqK_n ?_
    refine cw_ret ?_
    refine seqK_r ?_
    refine ret_okM (rs := [.cell 6 32, .tmp 7]) (vs := [.agg #[.slice none 0 0, .slice none 0 0], .int .i64 r18]) (.inr rfl) rfl ⟨⟨_, true, _, [.slice none 0 0, .slice none 0 0], rfl, ty32, CA_blk (off := 0) (m := 2) (hs.blk (k := 0) rfl), rfl, rfl⟩, rfl, trivial⟩ ?_
    obtain rfl := Option.some.inj hm
    replace hs := hs.erase 0
    exact ⟨J20, none, 0, none, 0, (((hle4.trans hle9).trans hle14).trans hle21), hs, rfl, (Rs.nil _ _ _), (Rs.nil _ _ _)⟩
  · rw [if_neg hc22] at hm
    refine cw_if_f rfl (decide_eq_false hc22) ?_
    refine cw_skip ?_
    refine seqK_n ?_
    refine cw_seq ?_
    refine cw_seq ?_
    refine cw_region ?_
    refine ow_loadI (vs := [.int .i64 x2]) (v := .int .i64 x2) hs hI15 rfl ty3 rfl rfl rfl ?_
    refine ow_buildSlice (vp := [(0, .int .i64 x2)]) (cs := [.int .i64 x2]) hs sl24 ty3 rfl ⟨rfl, rfl, trivial⟩ (by decide) rfl (by decide) ?_
    clear hs; intro a25 J23 w hle24 hs hR26
    replace hx0_2 := hx0_2.mono hle24
    replace hx1_2 := hx1_2.mono hle24
    replace hI5 := hI5.mono hle24
    replace hI10 := hI10.mono hle24
    replace hI15 := hI15.mono hle24
    replace hR26 : Rs J23 1 a25 [x2].length 1 ([x2].flatMap e64) := hR26
    obtain ⟨r27, hr28, hm2⟩ := bind_some hm
    replace hm := hm2; clear hm2
    refine ow_call (fi := []) (vs := [.int .i64 0, .int .i64 16320, .slice a25 ([x2].length) 1]) (ca := []) rfl ⟨rfl, rfl, rfl, trivial⟩ en9 (f9_ok _ _ _ hr28 hs hR26) ?_
    clear hs; rintro _ w ⟨J29, hle30, hs, rfl⟩
    replace hx0_2 := hx0_2.mono hle30
    replace hx1_2 := hx1_2.mono hle30
    replace hI5 := hI5.mono hle30
    replace hI10 := hI10.mono hle30
    replace hI15 := hI15.mono hle30
    replace hR26 := hR26.mono hle30
    refine ow_v (x_not (b := r27) rfl) rfl ?_
    refine ow_nil ?_
    refine seqK_n ?_
    by_cases hc31 : (!r27) = true
    · rw [if_pos hc31] at hm
      refine cw_if_t rfl hc31 ?_
      refine cw_seq ?_
      refine cw_region ?_
      refine ow_build (vp := []) (cs := [.slice none 0 0, .slice none 0 0]) st32 ty32 trivial rfl ?_
      refine ow_store (k := 0) (vs := [.slice none 0 0, .slice none 0 0]) (cs' := [.slice none 0 0, .slice none 0 0]) hs rfl rfl rfl ty32 rfl rfl (Nat.le_of_ble_eq_true rfl) rfl rfl ?_
      clear hs; intro w hs
      refine ow_v (x_assign (v := .int .i64 2) rfl) rfl ?_
      refine ow_nil ?_
      refine seqK_n ?_
      refine cw_ret ?_
      refine seqK_r ?_
      refine ret_okM (rs := [.cell 6 32, .tmp 7]) (vs := [.agg #[.slice none 0 0, .slice none 0 0], .int .i64 2]) (.inr rfl) rfl ⟨⟨_, true, _, [.slice none 0 0, .slice none 0 0], rfl, ty32, CA_blk (off := 0) (m := 2) (hs.blk (k := 0) rfl), rfl, rfl⟩, rfl, trivial⟩ ?_
      obtain rfl := Option.some.inj hm
      replace hs := hs.erase 0
      exact ⟨J29, none, 0, none, 0, (((((hle4.trans hle9).trans hle14).trans hle21).trans hle24).trans hle30), hs, rfl, (Rs.nil _ _ _), (Rs.nil _ _ _)⟩
    · rw [if_neg hc31] at hm
      refine cw_if_f rfl (Bool.eq_false_iff.2 hc31) ?_
      refine cw_skip ?_
      refine seqK_n ?_
      refine cw_seq ?_
      refine cw_region ?_
      refine ow_alloc hs ty32 rfl ?_
      clear hs; intro b32 w hs
      refine ow_nil ?_
      refine seqK_n ?_
      refine cw_seq ?_
      refine cw_seq ?_
      refine cw_region ?_
      refine ow_loadI (vs := [.int .i64 x0_0, .int .i64 x0_1, .slice ax0_2 x0_2.length cx0_2]) (v := .agg #[.int .i64 x0_0, .int .i64 x0_1, .slice ax0_2 x0_2.length cx0_2]) hs hI5 rfl ty26 rfl rfl rfl ?_
      refine ow_call (fi := []) (vs := [.agg #[.int .i64 x0_0, .int .i64 x0_1, .slice ax0_2 x0_2.length cx0_2]]) (ca := []) rfl ⟨rfl, trivial⟩ en10 (f10_ok hs) ?_
      clear hs; rintro _ w ⟨J35, b34, hle36, hs, rfl, hI37⟩
      replace hx0_2 := hx0_2.mono hle36
      replace hx1_2 := hx1_2.mono hle36
      replace hI5 := hI5.mono hle36
      replace hI10 := hI10.mono hle36
      replace hI15 := hI15.mono hle36
      replace hR26 := hR26.mono hle36
      refine ow_nil ?_
      refine seqK_n ?_
      refine cw_block ?_
      replace hs := hs.pushNil 40 5
      replace hs := hs.pushNil 49 6
      obtain ⟨sr121, hm2, hq122⟩ := bind_some hm
      replace hm := hm2; clear hm2
      refine cw_range hs rfl en21 ?_
      clear hs; intro l124 D125 fnD125 OB126 w hOB127 hs
      refine CV.mono (f21_it (sv := .slice ax0_2 x0_2.length cx0_2) x0_0 x0_1 (Inv := fun j w => ∃ (sv123 : (List (Int × Int × Int × Int × Int × Int)) × (List (Int × Int × Int × Int × Int))) (a_o_nb_r33_1 : Option Addr) (c_o_nb_r33_1 : Nat) (a_o_nb_r33_0 : Option Addr) (c_o_nb_r33_0 : Nat) (I128 : Im), Im.le J35 I128 ∧ itFrom (fun j s => f5_s0 x0_0 x0_1 x0_2 x1_0 x1_1 x1_2 x2 s (theBox x0_0 x0_1 j)) j (48 - j) sv123 = some sr121 ∧ Sat I128 (OB126 :: HL.ob D125 (.deferred (some [])) :: osl 49 6 a_o_nb_r33_1 sv123.1.length c_o_nb_r33_1 (sv123.1.flatMap enc49) :: osl 40 5 a_o_nb_r33_0 sv123.2.length c_o_nb_r33_0 (sv123.2.flatMap enc40) :: blk b32 32 [.slice a_o_nb_r33_0 sv123.2.length c_o_nb_r33_0, .slice a_o_nb_r33_1 sv123.1.length c_o_nb_r33_1] :: blk b16 32 [.slice none 0 0, .slice none 0 0] :: F) w) ?_ ?_ ⟨(([] : List (Int × Int × Int × Int × Int × Int)), ([] : List (Int × Int × Int × Int × Int))), none, 0, none, 0, J35, Im.le.refl _, hm, hs⟩) ?_
      · rintro j w ⟨sv123, a_o_nb_r33_1, c_o_nb_r33_1, a_o_nb_r33_0, c_o_nb_r33_0, I128, hle129, hit, hs⟩
        exact ⟨_, _, hs, hI37.mono hle129⟩
      · clear hm hs
        rintro j hj w ⟨sv123, a_o_nb_r33_1, c_o_nb_r33_1, a_o_nb_r33_0, c_o_nb_r33_0, I128, hle129, hit, hs⟩
        obtain ⟨sn, hm, hit2⟩ := it_succ (k := 47 - j) (by omega) hit
        clear hit
        replace hx0_2 := hx0_2.mono hle129
        replace hx1_2 := hx1_2.mono hle129
        replace hI5 := hI5.mono hle129
        replace hI10 := hI10.mono hle129
        replace hI15 := hI15.mono hle129
        replace hR26 := hR26.mono hle129
        replace hI37 := hI37.mono hle129
        unfold f5_s0 at hm
        refine yc_of (k := 0) hs hOB127 rfl rfl ?_
        refine cw_region ?_
        refine ow_alloc hs ty49 rfl ?_
        clear hs; intro b130 w hs
        refine ow_store (k := 0) (vs := [.int .i64 ((theBox x0_0 x0_1 j).1), .int .i64 ((theBox x0_0 x0_1 j).2.1), .int .i64 ((theBox x0_0 x0_1 j).2.2.1), .int .i64 ((theBox x0_0 x0_1 j).2.2.2.1), .int .i64 ((theBox x0_0 x0_1 j).2.2.2.2.1), .int .i64 ((theBox x0_0 x0_1 j).2.2.2.2.2)]) (cs' := [.int .i64 ((theBox x0_0 x0_1 j).1), .int .i64 ((theBox x0_0 x0_1 j).2.1), .int .i64 ((theBox x0_0 x0_1 j).2.2.1), .int .i64 ((theBox x0_0 x0_1 j).2.2.2.1), .int .i64 ((theBox x0_0 x0_1 j).2.2.2.2.1), .int .i64 ((theBox x0_0 x0_1 j).2.2.2.2.2)]) hs rfl rfl rfl ty49 rfl rfl (Nat.le_of_ble_eq_true rfl) rfl rfl ?_
        clear hs; intro w hs
        refine ow_nil ?_
        refine ⟨rfl, I128, 1, _, hs, rfl, ?_⟩
        clear hs; intro BB132 w hs
        refine cw_block ?_
        refine cw_seq ?_
        refine cw_region ?_
        refine ow_loadI (vs := [.int .i64 x1_0, .int .i64 x1_1, .slice ax1_2 x1_2.length cx1_2]) (v := .agg #[.int .i64 x1_0, .int .i64 x1_1, .slice ax1_2 x1_2.length cx1_2]) hs hI10 rfl ty28 rfl rfl rfl ?_
        refine ow_field (b := b130) (o := 0) fl49_4 rfl ?_
        refine ow_load (k := 0) (vs := [.int .i64 ((theBox x0_0 x0_1 j).2.2.2.2.1)]) (v := .int .i64 ((theBox x0_0 x0_1 j).2.2.2.2.1)) hs rfl rfl ty3 rfl rfl rfl ?_
        refine ow_field (b := b130) (o := 0) fl49_5 rfl ?_
        refine ow_load (k := 0) (vs := [.int .i64 ((theBox x0_0 x0_1 j).2.2.2.2.2)]) (v := .int .i64 ((theBox x0_0 x0_1 j).2.2.2.2.2)) hs rfl rfl ty3 rfl rfl rfl ?_
        obtain ⟨r133, hr134, hm2⟩ := bind_some hm
        replace hm := hm2; clear hm2
        refine ow_call (fi := []) (vs := [.agg #[.int .i64 x1_0, .int .i64 x1_1, .slice ax1_2 x1_2.length cx1_2], .int .i64 ((theBox x0_0 x0_1 j).2.2.2.2.1), .int .i64 ((theBox x0_0 x0_1 j).2.2.2.2.2)]) (ca := []) rfl ⟨rfl, rfl, rfl, trivial⟩ en11 (f11_ok _ _ _ _ _ hr134 hs hx1_2) ?_
        clear hs; rintro _ w ⟨J135, a137, c138, hle136, hs, rfl, hR139⟩
        replace hx0_2 := hx0_2.mono hle136
        replace hx1_2 := hx1_2.mono hle136
        replace hI5 := hI5.mono hle136
        replace hI10 := hI10.mono hle136
        replace hI15 := hI15.mono hle136
        replace hR26 := hR26.mono hle136
        replace hI37 := hI37.mono hle136
        refine ow_alloc hs ty51 rfl ?_
        clear hs; intro b140 w hs
        refine ow_store (k := 0) (vs := [.slice a137 r133.length c138]) (cs' := [.slice a137 r133.length c138]) hs rfl rfl rfl ty51 rfl rfl (Nat.le_of_ble_eq_true rfl) rfl rfl ?_
        clear hs; intro w hs
        obtain ⟨J142, hle143, hI144, hs⟩ := hs.freezeB
        replace hx0_2 := hx0_2.mono hle143
        replace hx1_2 := hx1_2.mono hle143
        replace hI5 := hI5.mono hle143
        replace hI10 := hI10.mono hle143
        replace hI15 := hI15.mono hle143
        replace hR26 := hR26.mono hle143
        replace hI37 := hI37.mono hle143
        replace hR139 := hR139.mono hle143
        refine ow_nil ?_
        refine seqK_n ?_
        refine cw_seq ?_
        refine cw_region ?_
        refine ow_field (b := b32) (o := 0) fl32_0 rfl ?_
        refine ow_load (k := 5) (vs := [.slice a_o_nb_r33_0 sv123.2.length c_o_nb_r33_0]) (v := .slice a_o_nb_r33_0 sv123.2.length c_o_nb_r33_0) hs rfl rfl ty29 rfl rfl rfl ?_
        refine ow_v (x_len sl29 rfl) rfl ?_
        refine ow_v (x_assign (v := .int .i64 (sv123.2.length : Int)) rfl) rfl ?_
        refine ow_nil ?_
        refine seqK_n ?_
        refine cw_seq ?_
        refine cw_region ?_
        refine ow_alloc hs ty53 rfl ?_
        clear hs; intro b145 w hs
        refine ow_nil ?_
        refine seqK_n ?_
        refine cw_seq ?_
        refine cw_region ?_
        refine ow_v (x_funcL (vf := []) (vc := [.pointer (some ⟨b140, 0, none⟩), .pointer (some ⟨b1, 0, none⟩), .pointer (some ⟨b11, 0, none⟩), .pointer (some ⟨b32, 0, none⟩), .pointer (some ⟨b145, 0, none⟩)]) trivial ⟨rfl, rfl, rfl, rfl, rfl, trivial⟩) rfl ?_
        refine ow_store (k := 0) (vs := [.func (.func 12) #[] #[.pointer (some ⟨b140, 0, none⟩), .pointer (some ⟨b1, 0, none⟩), .pointer (some ⟨b11, 0, none⟩), .pointer (some ⟨b32, 0, none⟩), .pointer (some ⟨b145, 0, none⟩)]]) (cs' := [.func (.func 12) #[] #[.pointer (some ⟨b140, 0, none⟩), .pointer (some ⟨b1, 0, none⟩), .pointer (some ⟨b11, 0, none⟩), .pointer (some ⟨b32, 0, none⟩), .pointer (some ⟨b145, 0, none⟩)]]) hs rfl rfl rfl ty53 rfl rfl (Nat.le_of_ble_eq_true rfl) rfl rfl ?_
        clear hs; intro w hs
        obtain ⟨J147, hle148, hI149, hs⟩ := hs.freezeB
        replace hx0_2 := hx0_2.mono hle148
        replace hx1_2 := hx1_2.mono hle148
        replace hI5 := hI5.mono hle148
        replace hI10 := hI10.mono hle148
        replace hI15 := hI15.mono hle148
        replace hR26 := hR26.mono hle148
        replace hI37 := hI37.mono hle148
        replace hR139 := hR139.mono hle148
        replace hI144 := hI144.mono hle148
        refine ow_nil ?_
        refine seqK_n ?_
        refine cw_seq ?_
        refine cw_region ?_
        refine ow_loadI (vs := [.func (.func 12) #[] #[.pointer (some ⟨b140, 0, none⟩), .pointer (some ⟨b1, 0, none⟩), .pointer (some ⟨b11, 0, none⟩), .pointer (some ⟨b32, 0, none⟩), .pointer (some ⟨b145, 0, none⟩)]]) (v := .func (.func 12) #[] #[.pointer (some ⟨b140, 0, none⟩), .pointer (some ⟨b1, 0, none⟩), .pointer (some ⟨b11, 0, none⟩), .pointer (some ⟨b32, 0, none⟩), .pointer (some ⟨b145, 0, none⟩)]) hs hI149 rfl ty53 rfl rfl rfl ?_
        refine ow_load (k := 0) (vs := [.int .i64 ((theBox x0_0 x0_1 j).1), .int .i64 ((theBox x0_0 x0_1 j).2.1), .int .i64 ((theBox x0_0 x0_1 j).2.2.1), .int .i64 ((theBox x0_0 x0_1 j).2.2.2.1), .int .i64 ((theBox x0_0 x0_1 j).2.2.2.2.1), .int .i64 ((theBox x0_0 x0_1 j).2.2.2.2.2)]) (v := .agg #[.int .i64 ((theBox x0_0 x0_1 j).1), .int .i64 ((theBox x0_0 x0_1 j).2.1), .int .i64 ((theBox x0_0 x0_1 j).2.2.1), .int .i64 ((theBox x0_0 x0_1 j).2.2.2.1), .int .i64 ((theBox x0_0 x0_1 j).2.2.2.2.1), .int .i64 ((theBox x0_0 x0_1 j).2.2.2.2.2)]) hs rfl rfl ty49 rfl rfl rfl ?_
        replace hs := hs.front (k := 3) rfl
        replace hs := hs.front (k := 4) rfl
        replace hs := hs.front (k := 5) rfl
        obtain ⟨r150, hr151, hm2⟩ := bind_some hm
        replace hm := hm2; clear hm2
        refine ow_call (fi := []) (vs := [.agg #[.int .i64 ((theBox x0_0 x0_1 j).1), .int .i64 ((theBox x0_0 x0_1 j).2.1), .int .i64 ((theBox x0_0 x0_1 j).2.2.1), .int .i64 ((theBox x0_0 x0_1 j).2.2.2.1), .int .i64 ((theBox x0_0 x0_1 j).2.2.2.2.1), .int .i64 ((theBox x0_0 x0_1 j).2.2.2.2.2)]]) (ca := [.pointer (some ⟨b140, 0, none⟩), .pointer (some ⟨b1, 0, none⟩), .pointer (some ⟨b11, 0, none⟩), .pointer (some ⟨b32, 0, none⟩), .pointer (some ⟨b145, 0, none⟩)]) rfl ⟨rfl, trivial⟩ en12 (f12_ok FUEL _ _ _ _ _ _ _ _ _ _ _ _ _ hr151 hs hR139 hI144 hx0_2 hI5 hI15 hI149) ?_
        clear hs; rintro _ w ⟨J152, az154_nb_r33_0, cz154_nb_r33_0, az154_nb_r33_1, cz154_nb_r33_1, hle153, hs, rfl⟩
        replace hx0_2 := hx0_2.mono hle153
        replace hx1_2 := hx1_2.mono hle153
        replace hI5 := hI5.mono hle153
        replace hI10 := hI10.mono hle153
        replace hI15 := hI15.mono hle153
        replace hR26 := hR26.mono hle153
        replace hI37 := hI37.mono hle153
        replace hR139 := hR139.mono hle153
        replace hI144 := hI144.mono hle153
        replace hI149 := hI149.mono hle153
        refine ow_nil ?_
        refine seqK_n ?_
        refine cw_region ?_
        refine ow_field (b := b32) (o := 0) fl32_0 rfl ?_
        refine ow_load (k := 0) (vs := [.slice az154_nb_r33_0 r150.1.length cz154_nb_r33_0]) (v := .slice az154_nb_r33_0 r150.1.length cz154_nb_r33_0) hs rfl rfl ty29 rfl rfl rfl ?_
        refine ow_v (x_move (v := .int .i64 (sv123.2.length : Int)) rfl) rfl ?_
        have hg155 := (ite_some hm).1
        replace hm := (ite_some hm).2
        refine ow_v (x_slice_lo (i := (sv123.2.length : Int)) sl29 ty40 rfl rfl hg155.1 hg155.2) rfl ?_
        replace hs := hs.front (k := 1) rfl
        obtain ⟨Y156, hY157, hm2⟩ := bind_some hm
        replace hm := hm2; clear hm2
        refine ow_call (fi := []) (vs := [.slice (so az154_nb_r33_0 cz154_nb_r33_0 (sv123.2.length : Int).toNat 5) (r150.1.length - (sv123.2.length : Int).toNat) (cz154_nb_r33_0 - (sv123.2.length : Int).toNat), .func (.func 15) #[] #[]]) (ca := []) rfl ⟨rfl, rfl, trivial⟩ en14 (f14_ok hY157 (by have := hg155; omega) hs) ?_
        clear hs; rintro _ w ⟨rfl, hs⟩
        rw [sortTail_len hY157] at hs
        refine ow_nil ?_
        refine blockK_n ?_
        replace hs := hs.erase 3
        replace hs := hs.front (k := 5) rfl
        replace hs := hs.front (k := 2) rfl
        replace hs := hs.front (k := 2) rfl
        replace hs := hs.front (k := 3) rfl
        replace hs := hs.front (k := 5) rfl
        replace hs := hs.front (k := 5) rfl
        obtain rfl := Option.some.inj hm
        refine ⟨rfl, J152, 0, _, hs, rfl, ?_⟩
        clear hs; intro w hs
        exact ⟨rfl, (r150.2, Y156), az154_nb_r33_1, cz154_nb_r33_1, az154_nb_r33_0, cz154_nb_r33_0, J152, ((((hle129.trans hle136).trans hle143).trans hle148).trans hle153), (by rw [show 48 - (j + 1) = 47 - j by omega]; exact hit2), hs⟩
      · clear hm hs
        rintro _ w ⟨sv123, a_o_nb_r33_1, c_o_nb_r33_1, a_o_nb_r33_0, c_o_nb_r33_0, I128, hle129, hit, hs⟩
        obtain rfl := Option.some.inj hit
        refine ⟨I128, _, hs, ?_⟩
        clear hs; intro w hs
        replace hm := hq122
        replace hx0_2 := hx0_2.mono hle129
        replace hx1_2 := hx1_2.mono hle129
        replace hI5 := hI5.mono hle129
        replace hI10 := hI10.mono hle129
        replace hI15 := hI15.mono hle129
        replace hR26 := hR26.mono hle129
        replace hI37 := hI37.mono hle129
        refine blockK_n ?_
        refine seqK_n ?_
        refine cw_seq ?_
        refine cw_region ?_
        refine ow_load (k := 3) (vs := [.slice a_o_nb_r33_0 sv123.2.length c_o_nb_r33_0, .slice a_o_nb_r33_1 sv123.1.length c_o_nb_r33_1]) (v := .agg #[.slice a_o_nb_r33_0 sv123.2.length c_o_nb_r33_0, .slice a_o_nb_r33_1 sv123.1.length c_o_nb_r33_1]) hs rfl rfl ty32 rfl rfl rfl ?_
        refine ow_store (k := 4) (vs := [.slice a_o_nb_r33_0 sv123.2.length c_o_nb_r33_0, .slice a_o_nb_r33_1 sv123.1.length c_o_nb_r33_1]) (cs' := [.slice a_o_nb_r33_0 sv123.2.length c_o_nb_r33_0, .slice a_o_nb_r33_1 sv123.1.length c_o_nb_r33_1]) hs rfl rfl rfl ty32 rfl rfl (Nat.le_of_ble_eq_true rfl) rfl rfl ?_
        clear hs; intro w hs
        refine ow_v (x_assign (v := .int .i64 0) rfl) rfl ?_
        refine ow_nil ?_
        refine seqK_n ?_
        refine cw_ret ?_
        refine ret_mark (k := 0) hs rfl ?_
        clear hs; intro w hs
        refine ret_okM (rs := [.cell 6 32, .tmp 7]) (vs := [.agg #[.slice a_o_nb_r33_0 sv123.2.length c_o_nb_r33_0, .slice a_o_nb_r33_1 sv123.1.length c_o_nb_r33_1], .int .i64 0]) (.inr rfl) rfl ⟨⟨_, true, _, [.slice a_o_nb_r33_0 sv123.2.length c_o_nb_r33_0, .slice a_o_nb_r33_1 sv123.1.length c_o_nb_r33_1], rfl, ty32, CA_blk (off := 0) (m := 2) (hs.blk (k := 3) rfl), rfl, rfl⟩, rfl, trivial⟩ ?_
        obtain rfl := Option.some.inj hm
        replace hs := hs.front (k := 1) rfl
        obtain ⟨J159, hle160, hR158, hs⟩ := hs.freezeO
        replace hx0_2 := hx0_2.mono hle160
        replace hx1_2 := hx1_2.mono hle160
        replace hI5 := hI5.mono hle160
        replace hI10 := hI10.mono hle160
        replace hI15 := hI15.mono hle160
        replace hR26 := hR26.mono hle160
        replace hI37 := hI37.mono hle160
        obtain ⟨J162, hle163, hR161, hs⟩ := hs.freezeO
        replace hx0_2 := hx0_2.mono hle163
        replace hx1_2 := hx1_2.mono hle163
        replace hI5 := hI5.mono hle163
        replace hI10 := hI10.mono hle163
        replace hI15 := hI15.mono hle163
        replace hR26 := hR26.mono hle163
        replace hI37 := hI37.mono hle163
        replace hR158 := hR158.mono hle163
        replace hs := hs.erase 0
        replace hs := hs.erase 0
        exact ⟨J162, a_o_nb_r33_0, c_o_nb_r33_0, a_o_nb_r33_1, c_o_nb_r33_1, (((((((((hle4.trans hle9).trans hle14).trans hle21).trans hle24).trans hle30).trans hle36).trans hle129).trans hle160).trans hle163), hs, rfl, hR158, hR161⟩
end Go.HL.Try
