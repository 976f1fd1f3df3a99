/- The walks of some functions, printed by a program of ours (gox). -/
import Derived.Test.YtllfmfoahloldaaFB
import Derived.Test.YtllfmfoahloldaaF18a
set_option linter.unusedVariables false
set_option linter.unusedSimpArgs false
set_option maxRecDepth 100000
set_option maxHeartbeats 400000
namespace Go.HL.Try
open Go.HL
attribute [local irreducible] OW CW CV
theorem ty70 : TyC P 70 false [.map none] := ⟨by kernel_rfl, by kernel_rfl, (fun _ => rfl), by kernel_rfl⟩
theorem mund70 : P.underlying 70 = some (.map 38 3) := by kernel_rfl
theorem mz70 (w : World) : (zeroValue 3).run P w = .ok (vi64 0) w := ((ty3).run_zero w).trans rfl

-- f26 sightbench/find.proved$1
def f26_l1 (x0_2 : Int) (x0_4 : Int) (x0_5 : Int) (v1_t_6 : Int) : Nat → Int → (List (K4 × Int)) → Option (List (K4 × Int))
  | 0, _, _ => none
  | k + 1, v0_t_7, v0_o_p1 => (if v0_t_7 ≤ x0_2 then (f26_l1 x0_2 x0_4 x0_5 v1_t_6 k (w64 (v0_t_7 + 1)) (((entM v0_o_p1 (v0_t_7, v1_t_6, x0_4, x0_5) 0).1).modify ((entM v0_o_p1 (v0_t_7, v1_t_6, x0_4, x0_5) 0).2.2) (fun e => (e.1, w64 ((getM v0_o_p1 (v0_t_7, v1_t_6, x0_4, x0_5) 0) + 1))))) else some v0_o_p1)
def f26_l0 (x0_0 : Int) (x0_2 : Int) (x0_3 : Int) (x0_4 : Int) (x0_5 : Int) : Nat → Int → (List (K4 × Int)) → Option (List (K4 × Int))
  | 0, _, _ => none
  | k + 1, v1_t_6, v1_o_p1 => (if v1_t_6 ≤ x0_3 then ((f26_l1 x0_2 x0_4 x0_5 v1_t_6 FUEL x0_0 v1_o_p1).bind fun (o133 : List (K4 × Int)) => (f26_l0 x0_0 x0_2 x0_3 x0_4 x0_5 k (w64 (v1_t_6 + 1)) o133)) else some v1_o_p1)
def f26_m (x0_0 : Int) (x0_1 : Int) (x0_2 : Int) (x0_3 : Int) (x0_4 : Int) (x0_5 : Int) (y1 : List (K4 × Int)) (y2_0 : Int) (y2_1 : Int) (y2_2 : List Int) (y3_0 : Int) (y3_1 : Int) (y3_2 : List Int) : Option (Int × (List (K4 × Int))) :=
  ((f26_l0 x0_0 x0_2 x0_3 x0_4 x0_5 FUEL x0_1 y1).bind fun (o72 : List (K4 × Int)) => ((f11_m y2_0 y2_1 y2_2 x0_4 x0_5).bind fun r149 => ((f13_m r149 y3_0 y3_1 y3_2 x0_0 x0_1 x0_2 x0_3 x0_4 x0_5).bind fun r156 => some (r156, o72))))
theorem f26_ok (x0_0 : Int) (x0_1 : Int) (x0_2 : Int) (x0_3 : Int) (x0_4 : Int) (x0_5 : Int) (y1 : List (K4 × Int)) (y2_0 : Int) (y2_1 : Int) (y2_2 : List Int) (y3_0 : Int) (y3_1 : Int) (y3_2 : List Int) {r : Int × (List (K4 × Int))} (hm : f26_m x0_0 x0_1 x0_2 x0_3 x0_4 x0_5 y1 y2_0 y2_1 y2_2 y3_0 y3_1 y3_2 = some r) {b1_ : Nat} {m1_ : Nat} {b2_ : Nat} {ay2_2 : Option Addr} {cy2_2 : Nat} {b3_ : Nat} {ay3_2 : Option Addr} {cy3_2 : Nat} {I : Im} {F : List HP} {w : World} (hs : Sat I (mp m1_ kv38 vi64 y1 :: F) w) (hb1 : Ib I b1_ 70 [.map (some m1_)]) (hy2_2 : Rs I 1 ay2_2 y2_2.length cy2_2 (y2_2.flatMap e64)) (hb2 : Ib I b2_ 28 [.int .i64 y2_0, .int .i64 y2_1, .slice ay2_2 y2_2.length cy2_2]) (hy3_2 : Rs I 1 ay3_2 y3_2.length cy3_2 (y3_2.flatMap e64)) (hb3 : Ib I b3_ 26 [.int .i64 y3_0, .int .i64 y3_1, .slice ay3_2 y3_2.length cy3_2]) :
    CV P 26 [.agg #[.int .i64 x0_0, .int .i64 x0_1, .int .i64 x0_2, .int .i64 x0_3, .int .i64 x0_4, .int .i64 x0_5], .pointer (some ⟨b1_, 0, none⟩), .pointer (some ⟨b2_, 0, none⟩), .pointer (some ⟨b3_, 0, none⟩)] w fun v w' => ∃ (J : Im), Im.le I J ∧ Sat J (mp m1_ kv38 vi64 r.2 :: F) w' ∧ v = .int .i64 r.1 := by
  unfold f26_m at hm
  refine cv_of (n := 45) Go.Proofs.Try.func26 rfl rfl (Nat.le_of_ble_eq_true rfl) ?_
  refine cw_seq ?_
  refine cw_region ?_
  refine ow_box (v := .agg #[.int .i64 x0_0, .int .i64 x0_1, .int .i64 x0_2, .int .i64 x0_3, .int .i64 x0_4, .int .i64 x0_5]) (cs := [.int .i64 x0_0, .int .i64 x0_1, .int .i64 x0_2, .int .i64 x0_3, .int .i64 x0_4, .int .i64 x0_5]) hs rfl rfl ?_
  clear hs; intro b1 w hs
  refine ow_v (x_assign (v := .int .i64 0) rfl) rfl ?_
  refine ow_nil ?_
  refine seqK_n ?_
  obtain ⟨o72, hm2, hq73⟩ := bind_some hm
  replace hm := hm2; clear hm2
  refine cw_join (fun f ds w => ∃ (I74 : Im), ds = [] ∧ Im.le I I74 ∧ Sat I74 (blk b1 49 [.int .i64 x0_0, .int .i64 x0_1, .int .i64 x0_2, .int .i64 x0_3, .int .i64 x0_4, .int .i64 x0_5] :: mp m1_ kv38 vi64 o72 :: F) w ∧ f 2 = .pointer (some ⟨b2_, 0, none⟩) ∧ f 3 = .pointer (some ⟨b3_, 0, none⟩) ∧ f 4 = .pointer (some ⟨b1, 0, none⟩) ∧ f 5 = .int .i64 0) ?_ ?_
  · skip
    refine cw_seq ?_
    refine cw_region ?_
    refine ow_field (b := b1) (o := 0) fl49_1 rfl ?_
    refine ow_load (k := 0) (vs := [.int .i64 x0_1]) (v := .int .i64 x0_1) hs rfl rfl ty3 rfl rfl rfl ?_
    refine ow_v (x_assign (v := .int .i64 x0_1) rfl) rfl ?_
    refine ow_nil ?_
    refine seqK_n ?_
    refine cw_block ?_
    refine cw_loop (S := fun k f ds w => ∃ (v1_t_6 : Int) (v1_o_p1 : List (K4 × Int)), ∃ (I121 : Im), ds = [] ∧ Im.le I I121 ∧ f26_l0 x0_0 x0_2 x0_3 x0_4 x0_5 k v1_t_6 v1_o_p1 = some o72 ∧ Sat I121 (blk b1 49 [.int .i64 x0_0, .int .i64 x0_1, .int .i64 x0_2, .int .i64 x0_3, .int .i64 x0_4, .int .i64 x0_5] :: mp m1_ kv38 vi64 v1_o_p1 :: F) w ∧ f 1 = .pointer (some ⟨b1_, 0, none⟩) ∧ f 2 = .pointer (some ⟨b2_, 0, none⟩) ∧ f 3 = .pointer (some ⟨b3_, 0, none⟩) ∧ f 4 = .pointer (some ⟨b1, 0, none⟩) ∧ f 5 = .int .i64 0 ∧ f 6 = .int .i64 v1_t_6) ?_ (k := FUEL) ⟨x0_1, y1, I, rfl, Im.le.refl _, hm, hs, rfl, rfl, rfl, rfl, rfl, rfl⟩
    clear hm hs
    rintro k f ds w ⟨v1_t_6, v1_o_p1, I121, rfl, hle122, hm, hs, ht1_L0, ht2_L0, ht3_L0, ht4_L0, ht5_L0, ht6_L0⟩
    replace hb1 := hb1.mono hle122
    replace hy2_2 := hy2_2.mono hle122
    replace hb2 := hb2.mono hle122
    replace hy3_2 := hy3_2.mono hle122
    replace hb3 := hb3.mono hle122
    rcases k with _ | k
    · unfold f26_l0 at hm; cases hm
    unfold f26_l0 at hm
    refine cw_seq ?_
    refine cw_seq ?_
    refine cw_region ?_
    refine ow_v (x_move (v := .int .i64 v1_t_6) ht6_L0) rfl ?_
    refine ow_field (b := b1) (o := 0) fl49_3 ht4_L0 ?_
    refine ow_load (k := 0) (vs := [.int .i64 x0_3]) (v := .int .i64 x0_3) hs rfl rfl ty3 rfl rfl rfl ?_
    refine ow_v (x_leq (k := .i64) (a := v1_t_6) (b := x0_3) rfl rfl) rfl ?_
    refine ow_nil ?_
    refine seqK_n ?_
    by_cases hc123 : v1_t_6 ≤ x0_3
    · rw [if_pos hc123] at hm
      refine cw_if_t rfl (decide_eq_true hc123) ?_
      refine cw_skip ?_
      refine seqK_n ?_
      obtain ⟨o133, hm2, hq134⟩ := bind_some hm
      replace hm := hm2; clear hm2
      refine cw_join (fun f ds w => ∃ (I135 : Im), ds = [] ∧ Im.le I121 I135 ∧ Sat I135 (blk b1 49 [.int .i64 x0_0, .int .i64 x0_1, .int .i64 x0_2, .int .i64 x0_3, .int .i64 x0_4, .int .i64 x0_5] :: mp m1_ kv38 vi64 o133 :: F) w ∧ f 1 = .pointer (some ⟨b1_, 0, none⟩) ∧ f 2 = .pointer (some ⟨b2_, 0, none⟩) ∧ f 3 = .pointer (some ⟨b3_, 0, none⟩) ∧ f 4 = .pointer (some ⟨b1, 0, none⟩) ∧ f 5 = .int .i64 0 ∧ f 6 = .int .i64 v1_t_6) ?_ ?_
      · skip
        refine cw_block ?_
        refine cw_seq ?_
        refine cw_region ?_
        refine ow_field (b := b1) (o := 0) fl49_0 ht4_L0 ?_
        refine ow_load (k := 0) (vs := [.int .i64 x0_0]) (v := .int .i64 x0_0) hs rfl rfl ty3 rfl rfl rfl ?_
        refine ow_v (x_assign (v := .int .i64 x0_0) rfl) rfl ?_
        refine ow_nil ?_
        refine seqK_n ?_
        refine cw_block ?_
        refine cw_loop (S := fun k f ds w => ∃ (v0_t_7 : Int) (v0_o_p1 : List (K4 × Int)), ∃ (I142 : Im), ds = [] ∧ Im.le I121 I142 ∧ f26_l1 x0_2 x0_4 x0_5 v1_t_6 k v0_t_7 v0_o_p1 = some o133 ∧ Sat I142 (blk b1 49 [.int .i64 x0_0, .int .i64 x0_1, .int .i64 x0_2, .int .i64 x0_3, .int .i64 x0_4, .int .i64 x0_5] :: mp m1_ kv38 vi64 v0_o_p1 :: F) w ∧ f 1 = .pointer (some ⟨b1_, 0, none⟩) ∧ f 2 = .pointer (some ⟨b2_, 0, none⟩) ∧ f 3 = .pointer (some ⟨b3_, 0, none⟩) ∧ f 4 = .pointer (some ⟨b1, 0, none⟩) ∧ f 5 = .int .i64 0 ∧ f 6 = .int .i64 v1_t_6 ∧ f 7 = .int .i64 v0_t_7) ?_ (k := FUEL) ⟨x0_0, v1_o_p1, I121, rfl, Im.le.refl _, hm, hs, ht1_L0, ht2_L0, ht3_L0, ht4_L0, ht5_L0, ht6_L0, rfl⟩
        clear hm hs
        rintro k f ds w ⟨v0_t_7, v0_o_p1, I142, rfl, hle143, hm, hs, ht1_L1, ht2_L1, ht3_L1, ht4_L1, ht5_L1, ht6_L1, ht7_L1⟩
        replace hb1 := hb1.mono hle143
        replace hy2_2 := hy2_2.mono hle143
        replace hb2 := hb2.mono hle143
        replace hy3_2 := hy3_2.mono hle143
        replace hb3 := hb3.mono hle143
        rcases k with _ | k
        · unfold f26_l1 at hm; cases hm
        unfold f26_l1 at hm
        refine cw_seq ?_
        refine cw_seq ?_
        refine cw_region ?_
        refine ow_v (x_move (v := .int .i64 v0_t_7) ht7_L1) rfl ?_
        refine ow_field (b := b1) (o := 0) fl49_2 ht4_L1 ?_
        refine ow_load (k := 0) (vs := [.int .i64 x0_2]) (v := .int .i64 x0_2) hs rfl rfl ty3 rfl rfl rfl ?_
        refine ow_v (x_leq (k := .i64) (a := v0_t_7) (b := x0_2) rfl rfl) rfl ?_
        refine ow_nil ?_
        refine seqK_n ?_
        by_cases hc144 : v0_t_7 ≤ x0_2
        · rw [if_pos hc144] at hm
          refine cw_if_t rfl (decide_eq_true hc144) ?_
          refine cw_skip ?_
          refine seqK_n ?_
          refine cw_seq ?_
          refine cw_block ?_
          refine cw_drawF mixed rfl (fun f0 L f w => ∃ (Iq : Im), Im.le I142 Iq ∧ f = frL [(24, 0, .map (some m1_)), (25, 1, .int .i64 v0_t_7), (26, 2, .int .i64 v1_t_6), (27, 3, .pointer (some ⟨b1, 4, none⟩)), (28, 4, .int .i64 x0_4), (29, 5, .pointer (some ⟨b1, 5, none⟩)), (30, 6, .int .i64 x0_5), (31, 7, .agg #[.int .i64 v0_t_7, .int .i64 v1_t_6, .int .i64 x0_4, .int .i64 x0_5]), (32, 8, .int .i64 (getM v0_o_p1 (v0_t_7, v1_t_6, x0_4, x0_5) 0)), (33, 9, .int .i64 (w64 ((getM v0_o_p1 (v0_t_7, v1_t_6, x0_4, x0_5) 0) + 1))), (34, 10, .tuple #[.int .i64 ((entM v0_o_p1 (v0_t_7, v1_t_6, x0_4, x0_5) 0).2.1), .int .i64 ((entM v0_o_p1 (v0_t_7, v1_t_6, x0_4, x0_5) 0).2.2 : Int)]), (35, 11, .int .i64 ((entM v0_o_p1 (v0_t_7, v1_t_6, x0_4, x0_5) 0).2.2 : Int))] L f0 ∧ Sat Iq (blk b1 49 [.int .i64 x0_0, .int .i64 x0_1, .int .i64 x0_2, .int .i64 x0_3, .int .i64 x0_4, .int .i64 x0_5] :: rL [(12, mp m1_ kv38 vi64 (((entM v0_o_p1 (v0_t_7, v1_t_6, x0_4, x0_5) 0).1).modify ((entM v0_o_p1 (v0_t_7, v1_t_6, x0_4, x0_5) 0).2.2) (fun e => (e.1, w64 ((getM v0_o_p1 (v0_t_7, v1_t_6, x0_4, x0_5) 0) + 1))))), (10, mp m1_ kv38 vi64 ((entM v0_o_p1 (v0_t_7, v1_t_6, x0_4, x0_5) 0).1))] (mp m1_ kv38 vi64 v0_o_p1) L :: F) w ∧ (L 12 = true → L 8 = true) ∧ (L 12 = true → L 10 = true)) ⟨I142, Im.le.refl _, (frL_ff _).symm, hs.drew, (fun h => by cases h), (fun h => by cases h)⟩ ⟨?_, ?_, ?_, ?_, ?_, ?_, ?_, ?_, ?_, ?_, ?_, ?_, ?_, trivial⟩ ?_
          all_goals clear hs
          · rintro L f w _ hL ⟨Iq, hleq, rfl, hs, pr12_8, pr12_10⟩
            replace hb1 := hb1.mono hleq
            replace hy2_2 := hy2_2.mono hleq
            replace hb2 := hb2.mono hleq
            replace hy3_2 := hy3_2.mono hleq
            replace hb3 := hb3.mono hleq
            refine ow_loadI (vs := [.map (some m1_)]) (v := .map (some m1_)) hs hb1 ht1_L1 ty70 rfl rfl rfl ?_
            exact ow_nil ⟨rfl, rfl, Iq, hleq, frL_set rfl rfl, hs, pr12_8, pr12_10⟩
          · rintro L f w _ hL ⟨Iq, hleq, rfl, hs, pr12_8, pr12_10⟩
            replace hb1 := hb1.mono hleq
            replace hy2_2 := hy2_2.mono hleq
            replace hb2 := hb2.mono hleq
            replace hy3_2 := hy3_2.mono hleq
            replace hb3 := hb3.mono hleq
            refine ow_v (x_move (v := .int .i64 v0_t_7) ht7_L1) rfl ?_
            exact ow_nil ⟨rfl, rfl, Iq, hleq, frL_set rfl rfl, hs, pr12_8, pr12_10⟩
          · rintro L f w _ hL ⟨Iq, hleq, rfl, hs, pr12_8, pr12_10⟩
            replace hb1 := hb1.mono hleq
            replace hy2_2 := hy2_2.mono hleq
            replace hb2 := hb2.mono hleq
            replace hy3_2 := hy3_2.mono hleq
            replace hb3 := hb3.mono hleq
            refine ow_v (x_move (v := .int .i64 v1_t_6) ht6_L1) rfl ?_
            exact ow_nil ⟨rfl, rfl, Iq, hleq, frL_set rfl rfl, hs, pr12_8, pr12_10⟩
          · rintro L f w _ hL ⟨Iq, hleq, rfl, hs, pr12_8, pr12_10⟩
            replace hb1 := hb1.mono hleq
            replace hy2_2 := hy2_2.mono hleq
            replace hb2 := hb2.mono hleq
            replace hy3_2 := hy3_2.mono hleq
            replace hb3 := hb3.mono hleq
            refine ow_field (b := b1) (o := 0) fl49_4 ht4_L1 ?_
            exact ow_nil ⟨rfl, rfl, Iq, hleq, frL_set rfl rfl, hs, pr12_8, pr12_10⟩
          · rintro L f w ⟨hL3, _⟩ hL ⟨Iq, hleq, rfl, hs, pr12_8, pr12_10⟩
            replace hb1 := hb1.mono hleq
            replace hy2_2 := hy2_2.mono hleq
            replace hb2 := hb2.mono hleq
            replace hy3_2 := hy3_2.mono hleq
            replace hb3 := hb3.mono hleq
            refine ow_load (k := 0) (vs := [.int .i64 x0_4]) (v := .int .i64 x0_4) hs rfl (frL_get rfl hL3) ty3 rfl rfl rfl ?_
            exact ow_nil ⟨rfl, rfl, Iq, hleq, frL_set rfl rfl, hs, pr12_8, pr12_10⟩
          · rintro L f w _ hL ⟨Iq, hleq, rfl, hs, pr12_8, pr12_10⟩
            replace hb1 := hb1.mono hleq
            replace hy2_2 := hy2_2.mono hleq
            replace hb2 := hb2.mono hleq
            replace hy3_2 := hy3_2.mono hleq
            replace hb3 := hb3.mono hleq
            refine ow_field (b := b1) (o := 0) fl49_5 ht4_L1 ?_
            exact ow_nil ⟨rfl, rfl, Iq, hleq, frL_set rfl rfl, hs, pr12_8, pr12_10⟩
          · rintro L f w ⟨hL5, _⟩ hL ⟨Iq, hleq, rfl, hs, pr12_8, pr12_10⟩
            replace hb1 := hb1.mono hleq
            replace hy2_2 := hy2_2.mono hleq
            replace hb2 := hb2.mono hleq
            replace hy3_2 := hy3_2.mono hleq
            replace hb3 := hb3.mono hleq
            refine ow_load (k := 0) (vs := [.int .i64 x0_5]) (v := .int .i64 x0_5) hs rfl (frL_get rfl hL5) ty3 rfl rfl rfl ?_
            exact ow_nil ⟨rfl, rfl, Iq, hleq, frL_set rfl rfl, hs, pr12_8, pr12_10⟩
          · rintro L f w ⟨hL1, hL2, hL4, hL6, _⟩ hL ⟨Iq, hleq, rfl, hs, pr12_8, pr12_10⟩
            replace hb1 := hb1.mono hleq
            replace hy2_2 := hy2_2.mono hleq
            replace hb2 := hb2.mono hleq
            replace hy3_2 := hy3_2.mono hleq
            replace hb3 := hb3.mono hleq
            refine ow_build (vp := [(0, .int .i64 v0_t_7), (1, .int .i64 v1_t_6), (2, .int .i64 x0_4), (3, .int .i64 x0_5)]) (cs := [.int .i64 v0_t_7, .int .i64 v1_t_6, .int .i64 x0_4, .int .i64 x0_5]) st38 ty38 ⟨rfl, (frL_get rfl hL1), rfl, (frL_get rfl hL2), rfl, (frL_get rfl hL4), rfl, (frL_get rfl hL6), trivial⟩ rfl ?_
            exact ow_nil ⟨rfl, rfl, Iq, hleq, frL_set rfl rfl, hs, pr12_8, pr12_10⟩
          · rintro L f w ⟨hL0, hL7, _⟩ hL ⟨Iq, hleq, rfl, hs, pr12_8, pr12_10⟩
            replace hb1 := hb1.mono hleq
            replace hy2_2 := hy2_2.mono hleq
            replace hb2 := hb2.mono hleq
            replace hy3_2 := hy3_2.mono hleq
            replace hb3 := hb3.mono hleq
            cases hLd : L 10
            · replace hs := hs.eqv (k := 1) rfl ((rL_f (show L 12 = false from pfalse pr12_8 hL) ((rL_f (show L 10 = false from hLd) (rL_n)))))
              refine ow_lookup (q := 1) (k := (v0_t_7, v1_t_6, x0_4, x0_5)) (zv := 0) (v := .int .i64 (getM v0_o_p1 (v0_t_7, v1_t_6, x0_4, x0_5) 0)) mund70 key38 (mz70 w) hs rfl (frL_get rfl hL0) (frL_get rfl hL7) (by first | rfl | exact congrArg _ (getM_ent _ _ _)) ?_
              replace hs := hs.eqv (k := 1) rfl (Eq.symm (a := rL [(12, mp m1_ kv38 vi64 (((entM v0_o_p1 (v0_t_7, v1_t_6, x0_4, x0_5) 0).1).modify ((entM v0_o_p1 (v0_t_7, v1_t_6, x0_4, x0_5) 0).2.2) (fun e => (e.1, w64 ((getM v0_o_p1 (v0_t_7, v1_t_6, x0_4, x0_5) 0) + 1))))), (10, mp m1_ kv38 vi64 ((entM v0_o_p1 (v0_t_7, v1_t_6, x0_4, x0_5) 0).1))] (mp m1_ kv38 vi64 v0_o_p1) (setL L 8)) (((rL_f (L := setL L 8) (show L 12 = false from pfalse pr12_8 hL) ((rL_f (L := setL L 8) (show L 10 = false from hLd) (rL_n)))))))
              exact ow_nil ⟨rfl, rfl, Iq, hleq, frL_set rfl rfl, hs, (fun _ => rfl), pr12_10⟩
            · replace hs := hs.eqv (k := 1) rfl ((rL_f (show L 12 = false from pfalse pr12_8 hL) (rL_t hLd)))
              refine ow_lookup (q := 1) (k := (v0_t_7, v1_t_6, x0_4, x0_5)) (zv := 0) (v := .int .i64 (getM v0_o_p1 (v0_t_7, v1_t_6, x0_4, x0_5) 0)) mund70 key38 (mz70 w) hs rfl (frL_get rfl hL0) (frL_get rfl hL7) (by first | rfl | exact congrArg _ (getM_ent _ _ _)) ?_
              replace hs := hs.eqv (k := 1) rfl (Eq.symm (a := rL [(12, mp m1_ kv38 vi64 (((entM v0_o_p1 (v0_t_7, v1_t_6, x0_4, x0_5) 0).1).modify ((entM v0_o_p1 (v0_t_7, v1_t_6, x0_4, x0_5) 0).2.2) (fun e => (e.1, w64 ((getM v0_o_p1 (v0_t_7, v1_t_6, x0_4, x0_5) 0) + 1))))), (10, mp m1_ kv38 vi64 ((entM v0_o_p1 (v0_t_7, v1_t_6, x0_4, x0_5) 0).1))] (mp m1_ kv38 vi64 v0_o_p1) (setL L 8)) (((rL_f (L := setL L 8) (show L 12 = false from pfalse pr12_8 hL) (rL_t (L := setL L 8) hLd)))))
              exact ow_nil ⟨rfl, rfl, Iq, hleq, frL_set rfl rfl, hs, (fun _ => rfl), pr12_10⟩
          · rintro L f w ⟨hL8, _⟩ hL ⟨Iq, hleq, rfl, hs, pr12_8, pr12_10⟩
            replace hb1 := hb1.mono hleq
            replace hy2_2 := hy2_2.mono hleq
            replace hb2 := hb2.mono hleq
            replace hy3_2 := hy3_2.mono hleq
            replace hb3 := hb3.mono hleq
            refine ow_v (x_add (k := .i64) (a := (getM v0_o_p1 (v0_t_7, v1_t_6, x0_4, x0_5) 0)) (b := 1) (frL_get rfl hL8) rfl) rfl ?_
            exact ow_nil ⟨rfl, rfl, Iq, hleq, frL_set rfl rfl, hs, pr12_8, pr12_10⟩
          · rintro L f w ⟨hL0, hL7, _, hL1, hL2, hL3, hL4, hL5, hL6, _, _⟩ hL ⟨Iq, hleq, rfl, hs, pr12_8, pr12_10⟩
            replace hb1 := hb1.mono hleq
            replace hy2_2 := hy2_2.mono hleq
            replace hb2 := hb2.mono hleq
            replace hy3_2 := hy3_2.mono hleq
            replace hb3 := hb3.mono hleq
            replace hs := hs.eqv (k := 1) rfl ((rL_f (show L 12 = false from pfalse pr12_10 hL) ((rL_f hL (rL_n)))))
            refine ow_mapEntry (q := 1) (k := (v0_t_7, v1_t_6, x0_4, x0_5)) (zv := 0) (v := .tuple #[.int .i64 ((entM v0_o_p1 (v0_t_7, v1_t_6, x0_4, x0_5) 0).2.1), .int .i64 ((entM v0_o_p1 (v0_t_7, v1_t_6, x0_4, x0_5) 0).2.2 : Int)]) mund70 key38 mz70 hs rfl (frL_get rfl hL0) (frL_get rfl hL7) rfl ?_
            clear hs; intro w hs
            replace hs := hs.eqv (k := 1) rfl (Eq.symm (a := rL [(12, mp m1_ kv38 vi64 (((entM v0_o_p1 (v0_t_7, v1_t_6, x0_4, x0_5) 0).1).modify ((entM v0_o_p1 (v0_t_7, v1_t_6, x0_4, x0_5) 0).2.2) (fun e => (e.1, w64 ((getM v0_o_p1 (v0_t_7, v1_t_6, x0_4, x0_5) 0) + 1))))), (10, mp m1_ kv38 vi64 ((entM v0_o_p1 (v0_t_7, v1_t_6, x0_4, x0_5) 0).1))] (mp m1_ kv38 vi64 v0_o_p1) (setL L 10)) (((rL_f (L := setL L 10) (show L 12 = false from pfalse pr12_10 hL) (rL_t (L := setL L 10) rfl)))))
            exact ow_nil ⟨rfl, rfl, Iq, hleq, frL_set rfl rfl, hs, pr12_8, (fun _ => rfl)⟩
          · rintro L f w ⟨hL10, _⟩ hL ⟨Iq, hleq, rfl, hs, pr12_8, pr12_10⟩
            replace hb1 := hb1.mono hleq
            replace hy2_2 := hy2_2.mono hleq
            replace hb2 := hb2.mono hleq
            replace hy3_2 := hy3_2.mono hleq
            replace hb3 := hb3.mono hleq
            refine ow_v (x_extract (v := .int .i64 ((entM v0_o_p1 (v0_t_7, v1_t_6, x0_4, x0_5) 0).2.2 : Int)) (frL_get rfl hL10) rfl) rfl ?_
            exact ow_nil ⟨rfl, rfl, Iq, hleq, frL_set rfl rfl, hs, pr12_8, pr12_10⟩
          · rintro L f w ⟨hL0, hL11, hL9, hL10, _, hL1, hL2, hL3, hL4, hL5, hL6, hL7, hL8, _, _, _, _⟩ hL ⟨Iq, hleq, rfl, hs, pr12_8, pr12_10⟩
            replace hb1 := hb1.mono hleq
            replace hy2_2 := hy2_2.mono hleq
            replace hb2 := hb2.mono hleq
            replace hy3_2 := hy3_2.mono hleq
            replace hb3 := hb3.mono hleq
            replace hs := hs.eqv (k := 1) rfl ((rL_f hL (rL_t hL10)))
            refine ow_entryStore (q := 1) (i := (entM v0_o_p1 (v0_t_7, v1_t_6, x0_4, x0_5) 0).2.2) (xv := (w64 ((getM v0_o_p1 (v0_t_7, v1_t_6, x0_4, x0_5) 0) + 1))) hs rfl (frL_get rfl hL0) (frL_get rfl hL11) (frL_get rfl hL9) (entM_lt _ _ _) ?_
            clear hs; intro w hs
            exact ow_nil ⟨rfl, rfl, Iq, hleq, frL_no rfl, hs, (fun _ => hL8), (fun _ => hL10)⟩
          rintro L f w hall ⟨I146, hle145, rfl, hs, _, _⟩
          rw [frL_tt _ rfl hall]
          replace hs := hs.eqv (k := 1) rfl (rL_t (hall 12 (Nat.le_of_ble_eq_true rfl)))
          replace hb1 := hb1.mono hle145
          replace hy2_2 := hy2_2.mono hle145
          replace hb2 := hb2.mono hle145
          replace hy3_2 := hy3_2.mono hle145
          replace hb3 := hb3.mono hle145
          refine blockK_n ?_
          refine seqK_n ?_
          refine cw_region ?_
          refine ow_v (x_move (v := .int .i64 v0_t_7) ht7_L1) rfl ?_
          refine ow_v (x_add (k := .i64) (a := v0_t_7) (b := 1) rfl rfl) rfl ?_
          refine ow_v (x_assign (v := .int .i64 (w64 (v0_t_7 + 1))) rfl) rfl ?_
          refine ow_nil ?_
          exact loopK_n ⟨k, Nat.lt_succ_self k, w64 (v0_t_7 + 1), ((entM v0_o_p1 (v0_t_7, v1_t_6, x0_4, x0_5) 0).1).modify ((entM v0_o_p1 (v0_t_7, v1_t_6, x0_4, x0_5) 0).2.2) (fun e => (e.1, w64 ((getM v0_o_p1 (v0_t_7, v1_t_6, x0_4, x0_5) 0) + 1))), I146, rfl, (hle143.trans hle145), hm, hs, ht1_L1, ht2_L1, ht3_L1, ht4_L1, ht5_L1, ht6_L1, rfl⟩
        · rw [if_neg hc144] at hm
          refine cw_if_f rfl (decide_eq_false hc144) ?_
          refine cw_exit ?_
          refine seqK_x ?_
          refine loopK_x ?_
          refine blockK_hit ?_
          refine blockK_n ?_
          obtain rfl := Option.some.inj hm
          refine joinK_n ⟨I142, rfl, hle143, hs, ht1_L1, ht2_L1, ht3_L1, ht4_L1, ht5_L1, ht6_L1⟩
      · clear hm hs
        rintro f ds w ⟨I135, rfl, hle147, hs, ht1_o133, ht2_o133, ht3_o133, ht4_o133, ht5_o133, ht6_o133⟩
        replace hm := hq134
        replace hb1 := hb1.mono hle147
        replace hy2_2 := hy2_2.mono hle147
        replace hb2 := hb2.mono hle147
        replace hy3_2 := hy3_2.mono hle147
        replace hb3 := hb3.mono hle147
        refine cw_region ?_
        refine ow_v (x_move (v := .int .i64 v1_t_6) ht6_o133) rfl ?_
        refine ow_v (x_add (k := .i64) (a := v1_t_6) (b := 1) rfl rfl) rfl ?_
        refine ow_v (x_assign (v := .int .i64 (w64 (v1_t_6 + 1))) rfl) rfl ?_
        refine ow_nil ?_
        exact loopK_n ⟨k, Nat.lt_succ_self k, w64 (v1_t_6 + 1), o133, I135, rfl, (hle122.trans hle147), hm, hs, ht1_o133, ht2_o133, ht3_o133, ht4_o133, ht5_o133, rfl⟩
    · rw [if_neg hc123] at hm
      refine cw_if_f rfl (decide_eq_false hc123) ?_
      refine cw_exit ?_
      refine seqK_x ?_
      refine loopK_x ?_
      refine blockK_hit ?_
      obtain rfl := Option.some.inj hm
      refine joinK_n ⟨I121, rfl, hle122, hs, ht2_L0, ht3_L0, ht4_L0, ht5_L0⟩
  · clear hm hs
    rintro f ds w ⟨I74, rfl, hle148, hs, ht2_o72, ht3_o72, ht4_o72, ht5_o72⟩
    replace hm := hq73
    replace hb1 := hb1.mono hle148
    replace hy2_2 := hy2_2.mono hle148
    replace hb2 := hb2.mono hle148
    replace hy3_2 := hy3_2.mono hle148
    replace hb3 := hb3.mono hle148
    refine cw_seq ?_
    obtain ⟨r149, hr150, hm2⟩ := bind_some hm
    replace hm := hm2; clear hm2
    obtain ⟨r156, hr157, hm2⟩ := bind_some hm
    replace hm := hm2; clear hm2
    refine cw_drawF mixed rfl (fun f0 L f w => ∃ (a153 : Option Addr) (c154 : Nat) (Iq : Im), Im.le I74 Iq ∧ f = frL [(36, 0, .agg #[.int .i64 y2_0, .int .i64 y2_1, .slice ay2_2 y2_2.length cy2_2]), (37, 1, .pointer (some ⟨b1, 4, none⟩)), (38, 2, .int .i64 x0_4), (39, 3, .pointer (some ⟨b1, 5, none⟩)), (40, 4, .int .i64 x0_5), (41, 5, .slice a153 r149.length c154), (42, 6, .agg #[.int .i64 y3_0, .int .i64 y3_1, .slice ay3_2 y3_2.length cy3_2]), (43, 7, .agg #[.int .i64 x0_0, .int .i64 x0_1, .int .i64 x0_2, .int .i64 x0_3, .int .i64 x0_4, .int .i64 x0_5]), (44, 8, .int .i64 r156), (5, 9, .int .i64 r156)] L f0 ∧ Sat Iq (blk b1 49 [.int .i64 x0_0, .int .i64 x0_1, .int .i64 x0_2, .int .i64 x0_3, .int .i64 x0_4, .int .i64 x0_5] :: mp m1_ kv38 vi64 o72 :: F) w ∧ (L 5 = true → Rs Iq 3 a153 r149.length c154 (r149.flatMap enc66))) ⟨none, 0, I74, Im.le.refl _, (frL_ff _).symm, hs.drew, (fun h => by cases h)⟩ ⟨?_, ?_, ?_, ?_, ?_, ?_, ?_, ?_, ?_, ?_, trivial⟩ ?_
    all_goals clear hs
    · rintro L f w _ hL ⟨a153, c154, Iq, hleq, rfl, hs, khR155⟩
      replace hb1 := hb1.mono hleq
      replace hy2_2 := hy2_2.mono hleq
      replace hb2 := hb2.mono hleq
      replace hy3_2 := hy3_2.mono hleq
      replace hb3 := hb3.mono hleq
      refine ow_loadI (vs := [.int .i64 y2_0, .int .i64 y2_1, .slice ay2_2 y2_2.length cy2_2]) (v := .agg #[.int .i64 y2_0, .int .i64 y2_1, .slice ay2_2 y2_2.length cy2_2]) hs hb2 ht2_o72 ty28 rfl rfl rfl ?_
      exact ow_nil ⟨rfl, rfl, a153, c154, Iq, hleq, frL_set rfl rfl, hs, (fun h => khR155 h)⟩
    · rintro L f w _ hL ⟨a153, c154, Iq, hleq, rfl, hs, khR155⟩
      replace hb1 := hb1.mono hleq
      replace hy2_2 := hy2_2.mono hleq
      replace hb2 := hb2.mono hleq
      replace hy3_2 := hy3_2.mono hleq
      replace hb3 := hb3.mono hleq
      refine ow_field (b := b1) (o := 0) fl49_4 ht4_o72 ?_
      exact ow_nil ⟨rfl, rfl, a153, c154, Iq, hleq, frL_set rfl rfl, hs, (fun h => khR155 h)⟩
    · rintro L f w ⟨hL1, _⟩ hL ⟨a153, c154, Iq, hleq, rfl, hs, khR155⟩
      replace hb1 := hb1.mono hleq
      replace hy2_2 := hy2_2.mono hleq
      replace hb2 := hb2.mono hleq
      replace hy3_2 := hy3_2.mono hleq
      replace hb3 := hb3.mono hleq
      refine ow_load (k := 0) (vs := [.int .i64 x0_4]) (v := .int .i64 x0_4) hs rfl (frL_get rfl hL1) ty3 rfl rfl rfl ?_
      exact ow_nil ⟨rfl, rfl, a153, c154, Iq, hleq, frL_set rfl rfl, hs, (fun h => khR155 h)⟩
    · rintro L f w _ hL ⟨a153, c154, Iq, hleq, rfl, hs, khR155⟩
      replace hb1 := hb1.mono hleq
      replace hy2_2 := hy2_2.mono hleq
      replace hb2 := hb2.mono hleq
      replace hy3_2 := hy3_2.mono hleq
      replace hb3 := hb3.mono hleq
      refine ow_field (b := b1) (o := 0) fl49_5 ht4_o72 ?_
      exact ow_nil ⟨rfl, rfl, a153, c154, Iq, hleq, frL_set rfl rfl, hs, (fun h => khR155 h)⟩
    · rintro L f w ⟨hL3, _⟩ hL ⟨a153, c154, Iq, hleq, rfl, hs, khR155⟩
      replace hb1 := hb1.mono hleq
      replace hy2_2 := hy2_2.mono hleq
      replace hb2 := hb2.mono hleq
      replace hy3_2 := hy3_2.mono hleq
      replace hb3 := hb3.mono hleq
      refine ow_load (k := 0) (vs := [.int .i64 x0_5]) (v := .int .i64 x0_5) hs rfl (frL_get rfl hL3) ty3 rfl rfl rfl ?_
      exact ow_nil ⟨rfl, rfl, a153, c154, Iq, hleq, frL_set rfl rfl, hs, (fun h => khR155 h)⟩
    · rintro L f w ⟨hL0, hL2, hL4, _⟩ hL ⟨a153, c154, Iq, hleq, rfl, hs, khR155⟩
      replace hb1 := hb1.mono hleq
      replace hy2_2 := hy2_2.mono hleq
      replace hb2 := hb2.mono hleq
      replace hy3_2 := hy3_2.mono hleq
      replace hb3 := hb3.mono hleq
      refine ow_call (fi := []) (vs := [.agg #[.int .i64 y2_0, .int .i64 y2_1, .slice ay2_2 y2_2.length cy2_2], .int .i64 x0_4, .int .i64 x0_5]) (ca := []) rfl ⟨(frL_get rfl hL0), (frL_get rfl hL2), (frL_get rfl hL4), trivial⟩ en11 (f11_ok _ _ _ _ _ hr150 hs hy2_2) ?_
      clear hs; rintro _ w ⟨J151, a153, c154, hle152, hs, rfl, hR155⟩
      replace hb1 := hb1.mono hle152
      replace hy2_2 := hy2_2.mono hle152
      replace hb2 := hb2.mono hle152
      replace hy3_2 := hy3_2.mono hle152
      replace hb3 := hb3.mono hle152
      exact ow_nil ⟨rfl, rfl, a153, c154, J151, (hleq.trans hle152), (Eq.trans (frL_setG (i := 5) rfl rfl) (rfl)), hs, (fun _ => hR155)⟩
    · rintro L f w _ hL ⟨a153, c154, Iq, hleq, rfl, hs, khR155⟩
      replace hb1 := hb1.mono hleq
      replace hy2_2 := hy2_2.mono hleq
      replace hb2 := hb2.mono hleq
      replace hy3_2 := hy3_2.mono hleq
      replace hb3 := hb3.mono hleq
      refine ow_loadI (vs := [.int .i64 y3_0, .int .i64 y3_1, .slice ay3_2 y3_2.length cy3_2]) (v := .agg #[.int .i64 y3_0, .int .i64 y3_1, .slice ay3_2 y3_2.length cy3_2]) hs hb3 ht3_o72 ty26 rfl rfl rfl ?_
      exact ow_nil ⟨rfl, rfl, a153, c154, Iq, hleq, frL_set rfl rfl, hs, (fun h => khR155 h)⟩
    · rintro L f w _ hL ⟨a153, c154, Iq, hleq, rfl, hs, khR155⟩
      replace hb1 := hb1.mono hleq
      replace hy2_2 := hy2_2.mono hleq
      replace hb2 := hb2.mono hleq
      replace hy3_2 := hy3_2.mono hleq
      replace hb3 := hb3.mono hleq
      refine ow_load (k := 0) (vs := [.int .i64 x0_0, .int .i64 x0_1, .int .i64 x0_2, .int .i64 x0_3, .int .i64 x0_4, .int .i64 x0_5]) (v := .agg #[.int .i64 x0_0, .int .i64 x0_1, .int .i64 x0_2, .int .i64 x0_3, .int .i64 x0_4, .int .i64 x0_5]) hs rfl ht4_o72 ty49 rfl rfl rfl ?_
      exact ow_nil ⟨rfl, rfl, a153, c154, Iq, hleq, frL_set rfl rfl, hs, (fun h => khR155 h)⟩
    · rintro L f w ⟨hL5, hL6, hL7, _, _⟩ hL ⟨a153, c154, Iq, hleq, rfl, hs, khR155⟩
      replace hb1 := hb1.mono hleq
      replace hy2_2 := hy2_2.mono hleq
      replace hb2 := hb2.mono hleq
      replace hy3_2 := hy3_2.mono hleq
      replace hb3 := hb3.mono hleq
      have hR155 := khR155 hL5
      refine ow_call (fi := []) (vs := [.slice a153 r149.length c154, .agg #[.int .i64 y3_0, .int .i64 y3_1, .slice ay3_2 y3_2.length cy3_2], .agg #[.int .i64 x0_0, .int .i64 x0_1, .int .i64 x0_2, .int .i64 x0_3, .int .i64 x0_4, .int .i64 x0_5]]) (ca := []) rfl ⟨(frL_get rfl hL5), (frL_get rfl hL6), (frL_get rfl hL7), trivial⟩ en13 (f13_ok _ _ _ _ _ _ _ _ _ _ hr157 hs hR155 hy3_2) ?_
      clear hs; rintro _ w ⟨J158, hle159, hs, rfl⟩
      replace hb1 := hb1.mono hle159
      replace hy2_2 := hy2_2.mono hle159
      replace hb2 := hb2.mono hle159
      replace hy3_2 := hy3_2.mono hle159
      replace hb3 := hb3.mono hle159
      replace hR155 := hR155.mono hle159
      exact ow_nil ⟨rfl, rfl, a153, c154, J158, (hleq.trans hle159), frL_set rfl rfl, hs, (fun h => (khR155 h).mono hle159)⟩
    · rintro L f w ⟨hL8, _, hL0, hL1, hL2, hL3, hL4, hL5, hL6, hL7, _, _⟩ hL ⟨a153, c154, Iq, hleq, rfl, hs, khR155⟩
      replace hb1 := hb1.mono hleq
      replace hy2_2 := hy2_2.mono hleq
      replace hb2 := hb2.mono hleq
      replace hy3_2 := hy3_2.mono hleq
      replace hb3 := hb3.mono hleq
      have hR155 := khR155 hL5
      refine ow_v (x_assign (v := .int .i64 r156) (frL_get rfl hL8)) rfl ?_
      exact ow_nil ⟨rfl, rfl, a153, c154, Iq, hleq, frL_set rfl rfl, hs, (fun h => khR155 h)⟩
    rintro L f w hall ⟨a153, c154, I161, hle160, rfl, hs, hR155⟩
    rw [frL_tt _ rfl hall]
    replace hR155 := hR155 (hall 5 (Nat.le_of_ble_eq_true rfl))
    replace hb1 := hb1.mono hle160
    replace hy2_2 := hy2_2.mono hle160
    replace hb2 := hb2.mono hle160
    replace hy3_2 := hy3_2.mono hle160
    replace hb3 := hb3.mono hle160
    refine seqK_n ?_
    refine cw_ret ?_
    refine ret_ok (rs := [.tmp 5]) (vs := [.int .i64 r156]) (.inr rfl) rfl ⟨rfl, trivial⟩ ?_
    obtain rfl := Option.some.inj hm
    replace hs := hs.erase 0
    exact ⟨I161, (hle148.trans hle160), hs, rfl⟩
end Go.HL.Try
