/- The walks of some functions, printed by a program of ours (gox). -/
import Derived.Test.YtllfmfoahloldaaFM
import Derived.Test.YtllfmfoahloldaaHL14
set_option linter.unusedVariables false
set_option linter.unusedSimpArgs false
set_option maxRecDepth 100000
set_option maxHeartbeats 400000
namespace Go.HL.Try
open Go.HL
attribute [local irreducible] OW CW CV
theorem en27 : Go.Proofs.Enters P 27 := Go.Proofs.enters_of Go.Proofs.Try.func27 (by kernel_rfl) rfl
theorem en28 : Go.Proofs.Enters P 28 := Go.Proofs.enters_of Go.Proofs.Try.func28 (by kernel_rfl) rfl
theorem fl40_1 : FldT P 40 1 4 := ⟨by kernel_rfl⟩
theorem en26 : Go.Proofs.Enters P 26 := Go.Proofs.enters_of Go.Proofs.Try.func26 (by kernel_rfl) rfl

-- f18 sightbench/find.proved
def f18_l0 (x0_0 : Int) (x0_1 : Int) (x0_2 : List Int) (x1_0 : Int) (x1_1 : Int) (x1_2 : List Int) (x2 : Int) (x3_0 : List (Int × Int × Int × Int × Int)) : Nat → Int → (List (K4 × Int)) → Option (Sum (List (K4 × Int)) Bool)
  | 0, _, _ => none
  | k + 1, v0_t_23, v0_o_r14 => (if v0_t_23 < (x3_0.length : Int) then (if 0 ≤ v0_t_23 ∧ v0_t_23 < (x3_0.length : Int) then ((f27_m ((at' x3_0 v0_t_23).1) ((at' x3_0 v0_t_23).2.1) ((at' x3_0 v0_t_23).2.2.1) ((at' x3_0 v0_t_23).2.2.2.1)).bind fun r140 => ((f28_m x0_0 x0_1 x0_2 r140.1 r140.2.1 r140.2.2.1 r140.2.2.2.1 r140.2.2.2.2.1 r140.2.2.2.2.2).bind fun r146 => (if (!r146) = true then some (Sum.inr false) else (if x2 < ((at' x3_0 v0_t_23).2.2.2.2) then some (Sum.inr false) else ((f26_m r140.1 r140.2.1 r140.2.2.1 r140.2.2.2.1 r140.2.2.2.2.1 r140.2.2.2.2.2 v0_o_r14 x1_0 x1_1 x1_2 x0_0 x0_1 x0_2).bind fun r150 => (if ¬ (r150.1 = ((at' x3_0 v0_t_23).2.2.2.2)) then some (Sum.inr false) else (f18_l0 x0_0 x0_1 x0_2 x1_0 x1_1 x1_2 x2 x3_0 k (w64 (v0_t_23 + 1)) r150.2))))))) else none) else some (Sum.inl v0_o_r14))
def f18_l1 (x0_0 : Int) (x0_1 : Int) (x0_2 : List Int) (x1_0 : Int) (x1_1 : Int) (x1_2 : List Int) (x2 : Int) (x3_1 : List (Int × Int × Int × Int × Int × Int)) : Nat → Int → (List (K4 × Int)) → Option (Sum (List (K4 × Int)) Bool)
  | 0, _, _ => none
  | k + 1, v1_t_52, v1_o_r14 => (if v1_t_52 < (x3_1.length : Int) then (if 0 ≤ v1_t_52 ∧ v1_t_52 < (x3_1.length : Int) then ((f28_m x0_0 x0_1 x0_2 ((at' x3_1 v1_t_52).1) ((at' x3_1 v1_t_52).2.1) ((at' x3_1 v1_t_52).2.2.1) ((at' x3_1 v1_t_52).2.2.2.1) ((at' x3_1 v1_t_52).2.2.2.2.1) ((at' x3_1 v1_t_52).2.2.2.2.2)).bind fun r244 => (if (!r244) = true then some (Sum.inr false) else ((f26_m ((at' x3_1 v1_t_52).1) ((at' x3_1 v1_t_52).2.1) ((at' x3_1 v1_t_52).2.2.1) ((at' x3_1 v1_t_52).2.2.2.1) ((at' x3_1 v1_t_52).2.2.2.2.1) ((at' x3_1 v1_t_52).2.2.2.2.2) v1_o_r14 x1_0 x1_1 x1_2 x0_0 x0_1 x0_2).bind fun r249 => (if r249.1 ≤ x2 then some (Sum.inr false) else (f18_l1 x0_0 x0_1 x0_2 x1_0 x1_1 x1_2 x2 x3_1 k (w64 (v1_t_52 + 1)) r249.2))))) else none) else some (Sum.inl v1_o_r14))
def f18_m (x0_0 : Int) (x0_1 : Int) (x0_2 : List Int) (x1_0 : Int) (x1_1 : Int) (x1_2 : List Int) (x2 : Int) (x3_0 : List (Int × Int × Int × Int × Int)) (x3_1 : List (Int × Int × Int × Int × Int × Int)) : Option Bool :=
  (lb (S := List (K4 × Int)) (f18_l0 x0_0 x0_1 x0_2 x1_0 x1_1 x1_2 x2 x3_0 FUEL 0 ([] : List (K4 × Int))) id (fun s87 => (lb (S := List (K4 × Int)) (f18_l1 x0_0 x0_1 x0_2 x1_0 x1_1 x1_2 x2 x3_1 FUEL 0 s87) id (fun s205 => (if (∀ x ∈ s205, x.2 = 1) then some (decide ((s205.length : Int) = (w64 ((w64 ((x0_2.length : Int) * 12)) * 4)))) else some false)))))
theorem f18_ok (x0_0 : Int) (x0_1 : Int) (x0_2 : List Int) (x1_0 : Int) (x1_1 : Int) (x1_2 : List Int) (x2 : Int) (x3_0 : List (Int × Int × Int × Int × Int)) (x3_1 : List (Int × Int × Int × Int × Int × Int)) {r : Bool} (hm : f18_m x0_0 x0_1 x0_2 x1_0 x1_1 x1_2 x2 x3_0 x3_1 = some r) {ax0_2 : Option Addr} {cx0_2 : Nat} {ax1_2 : Option Addr} {cx1_2 : Nat} {ax3_0 : Option Addr} {cx3_0 : Nat} {ax3_1 : Option Addr} {cx3_1 : Nat} {I : Im} {F : List HP} {w : World} (hs : Sat I (F) w) (hx0_2 : Rs I 1 ax0_2 x0_2.length cx0_2 (x0_2.flatMap e64)) (hx1_2 : Rs I 1 ax1_2 x1_2.length cx1_2 (x1_2.flatMap e64)) (hx3_0 : Rs I 5 ax3_0 x3_0.length cx3_0 (x3_0.flatMap enc40)) (hx3_1 : Rs I 6 ax3_1 x3_1.length cx3_1 (x3_1.flatMap enc49)) :
    CV P 18 [.agg #[.int .i64 x0_0, .int .i64 x0_1, .slice ax0_2 x0_2.length cx0_2], .agg #[.int .i64 x1_0, .int .i64 x1_1, .slice ax1_2 x1_2.length cx1_2], .int .i64 x2, .agg #[.slice ax3_0 x3_0.length cx3_0, .slice ax3_1 x3_1.length cx3_1]] w fun v w' => ∃ (J : Im), Im.le I J ∧ Sat J (F) w' ∧ v = .bool r := by
  unfold f18_m at hm
  refine cv_of (n := 84) Go.Proofs.Try.func18 rfl rfl (Nat.le_of_ble_eq_true rfl) ?_
  refine cw_seq ?_
  refine cw_region ?_
  refine ow_box (v := .agg #[.int .i64 x0_0, .int .i64 x0_1, .slice ax0_2 x0_2.length cx0_2]) (cs := [.int .i64 x0_0, .int .i64 x0_1, .slice ax0_2 x0_2.length cx0_2]) hs rfl rfl ?_
  clear hs; intro b1 w hs
  obtain ⟨J3, hle4, hI5, hs⟩ := hs.freezeB
  replace hx0_2 := hx0_2.mono hle4
  replace hx1_2 := hx1_2.mono hle4
  replace hx3_0 := hx3_0.mono hle4
  replace hx3_1 := hx3_1.mono hle4
  refine ow_box (v := .agg #[.int .i64 x1_0, .int .i64 x1_1, .slice ax1_2 x1_2.length cx1_2]) (cs := [.int .i64 x1_0, .int .i64 x1_1, .slice ax1_2 x1_2.length cx1_2]) hs rfl rfl ?_
  clear hs; intro b6 w hs
  obtain ⟨J8, hle9, hI10, hs⟩ := hs.freezeB
  replace hx0_2 := hx0_2.mono hle9
  replace hx1_2 := hx1_2.mono hle9
  replace hx3_0 := hx3_0.mono hle9
  replace hx3_1 := hx3_1.mono hle9
  replace hI5 := hI5.mono hle9
  refine ow_box (v := .agg #[.slice ax3_0 x3_0.length cx3_0, .slice ax3_1 x3_1.length cx3_1]) (cs := [.slice ax3_0 x3_0.length cx3_0, .slice ax3_1 x3_1.length cx3_1]) hs rfl rfl ?_
  clear hs; intro b11 w hs
  refine ow_v (x_assign (v := .bool false) rfl) rfl ?_
  refine ow_nil ?_
  refine seqK_n ?_
  refine cw_seq ?_
  refine cw_region ?_
  refine ow_makeMap (K := K4) (V := Int) (kv := kv38) (vv := vi64) mund70 hs ?_
  clear hs; intro m13 w hs
  refine ow_alloc hs ty70 rfl ?_
  clear hs; intro b15 w hs
  refine ow_store (k := 0) (vs := [.map (some m13)]) (cs' := [.map (some m13)]) hs rfl rfl rfl ty70 rfl rfl (Nat.le_of_ble_eq_true rfl) rfl rfl ?_
  clear hs; intro w hs
  obtain ⟨J17, hle18, hI19, hs⟩ := hs.freezeB
  replace hx0_2 := hx0_2.mono hle18
  replace hx1_2 := hx1_2.mono hle18
  replace hx3_0 := hx3_0.mono hle18
  replace hx3_1 := hx3_1.mono hle18
  replace hI5 := hI5.mono hle18
  replace hI10 := hI10.mono hle18
  refine ow_nil ?_
  refine seqK_n ?_
  refine cw_seq ?_
  refine cw_region ?_
  refine ow_v (x_funcL (vf := []) (vc := [.pointer (some ⟨b15, 0, none⟩), .pointer (some ⟨b6, 0, none⟩), .pointer (some ⟨b1, 0, none⟩)]) trivial ⟨rfl, rfl, rfl, trivial⟩) rfl ?_
  refine ow_v (x_assign (v := .func (.func 26) #[] #[.pointer (some ⟨b15, 0, none⟩), .pointer (some ⟨b6, 0, none⟩), .pointer (some ⟨b1, 0, none⟩)]) rfl) rfl ?_
  refine ow_nil ?_
  refine seqK_n ?_
  obtain ⟨o86, hm2, hq88⟩ := lb_some hm
  replace hm := hm2; clear hm2
  refine cw_join (fun f ds w => ∃ (s87 : List (K4 × Int)) (I89 : Im), ds = [] ∧ Im.le J17 I89 ∧ o86 = Sum.inl s87 ∧ Sat I89 (mp m13 kv38 vi64 s87 :: blk b11 32 [.slice ax3_0 x3_0.length cx3_0, .slice ax3_1 x3_1.length cx3_1] :: F) w ∧ f 2 = .int .i64 x2 ∧ f 4 = .pointer (some ⟨b1, 0, none⟩) ∧ f 7 = .pointer (some ⟨b11, 0, none⟩) ∧ f 8 = .bool false ∧ f 9 = .pointer (some ⟨b15, 0, none⟩) ∧ f 10 = .func (.func 26) #[] #[.pointer (some ⟨b15, 0, none⟩), .pointer (some ⟨b6, 0, none⟩), .pointer (some ⟨b1, 0, none⟩)]) ?_ ?_
  · skip
    refine cw_seq ?_
    refine cw_region ?_
    refine ow_field (b := b11) (o := 0) fl32_0 rfl ?_
    refine ow_load (k := 1) (vs := [.slice ax3_0 x3_0.length cx3_0]) (v := .slice ax3_0 x3_0.length cx3_0) hs rfl rfl ty29 rfl rfl rfl ?_
    refine ow_v (x_len sl29 rfl) rfl ?_
    refine ow_v (x_move (v := .int .i64 0) rfl) rfl ?_
    refine ow_nil ?_
    refine seqK_n ?_
    refine cw_block ?_
    refine cw_loop (S := fun k f ds w => ∃ (v0_t_23 : Int) (v0_o_r14 : List (K4 × Int)), ∃ (I134 : Im), ds = [] ∧ Im.le J17 I134 ∧ f18_l0 x0_0 x0_1 x0_2 x1_0 x1_1 x1_2 x2 x3_0 k v0_t_23 v0_o_r14 = some o86 ∧ Sat I134 (mp m13 kv38 vi64 v0_o_r14 :: blk b11 32 [.slice ax3_0 x3_0.length cx3_0, .slice ax3_1 x3_1.length cx3_1] :: F) w ∧ f 2 = .int .i64 x2 ∧ f 4 = .pointer (some ⟨b1, 0, none⟩) ∧ f 7 = .pointer (some ⟨b11, 0, none⟩) ∧ f 8 = .bool false ∧ f 9 = .pointer (some ⟨b15, 0, none⟩) ∧ f 10 = .func (.func 26) #[] #[.pointer (some ⟨b15, 0, none⟩), .pointer (some ⟨b6, 0, none⟩), .pointer (some ⟨b1, 0, none⟩)] ∧ f 21 = .slice ax3_0 x3_0.length cx3_0 ∧ f 22 = .int .i64 (x3_0.length : Int) ∧ f 23 = .int .i64 v0_t_23) ?_ (k := FUEL) ⟨0, ([] : List (K4 × Int)), J17, rfl, Im.le.refl _, hm, hs, rfl, rfl, rfl, rfl, rfl, rfl, rfl, rfl, rfl⟩
    clear hm hs
    rintro k f ds w ⟨v0_t_23, v0_o_r14, I134, rfl, hle135, hm, hs, ht2_L0, ht4_L0, ht7_L0, ht8_L0, ht9_L0, ht10_L0, ht21_L0, ht22_L0, ht23_L0⟩
    replace hx0_2 := hx0_2.mono hle135
    replace hx1_2 := hx1_2.mono hle135
    replace hx3_0 := hx3_0.mono hle135
    replace hx3_1 := hx3_1.mono hle135
    replace hI5 := hI5.mono hle135
    replace hI10 := hI10.mono hle135
    replace hI19 := hI19.mono hle135
    rcases k with _ | k
    · unfold f18_l0 at hm; cases hm
    unfold f18_l0 at hm
    refine cw_seq ?_
    refine cw_region ?_
    refine ow_v (x_lss (k := .i64) (a := v0_t_23) (b := (x3_0.length : Int)) ht23_L0 ht22_L0) rfl ?_
    refine ow_nil ?_
    refine seqK_n ?_
    refine cw_seq ?_
    by_cases hc136 : v0_t_23 < (x3_0.length : Int)
    · rw [if_pos hc136] at hm
      refine cw_if_t rfl (decide_eq_true hc136) ?_
      refine cw_skip ?_
      refine seqK_n ?_
      refine cw_seq ?_
      refine cw_block ?_
      refine cw_seq ?_
      refine cw_region ?_
      have hg137 := (ite_some hm).1
      replace hm := (ite_some hm).2
      refine ow_index (i := v0_t_23) sl29 ty40 ht21_L0 ht23_L0 hg137.1 hg137.2 (Rs.some hx3_0 (by have := hg137; omega)) ?_
      refine ow_loadR (p := v0_t_23.toNat * 5) (vs := [.int .i64 ((at' x3_0 v0_t_23).1), .int .i64 ((at' x3_0 v0_t_23).2.1), .int .i64 ((at' x3_0 v0_t_23).2.2.1), .int .i64 ((at' x3_0 v0_t_23).2.2.2.1), .int .i64 ((at' x3_0 v0_t_23).2.2.2.2)]) (v := .agg #[.int .i64 ((at' x3_0 v0_t_23).1), .int .i64 ((at' x3_0 v0_t_23).2.1), .int .i64 ((at' x3_0 v0_t_23).2.2.1), .int .i64 ((at' x3_0 v0_t_23).2.2.2.1), .int .i64 ((at' x3_0 v0_t_23).2.2.2.2)]) hs hx3_0 rfl ty40 (flat_at (enc := enc40) (sz := 5) (fun _ => rfl) x3_0 v0_t_23 hg137.1 hg137.2 0 5 (by decide)) rfl rfl ?_
      refine ow_alloc hs ty40 rfl ?_
      clear hs; intro b138 w hs
      refine ow_store (k := 0) (vs := [.int .i64 ((at' x3_0 v0_t_23).1), .int .i64 ((at' x3_0 v0_t_23).2.1), .int .i64 ((at' x3_0 v0_t_23).2.2.1), .int .i64 ((at' x3_0 v0_t_23).2.2.2.1), .int .i64 ((at' x3_0 v0_t_23).2.2.2.2)]) (cs' := [.int .i64 ((at' x3_0 v0_t_23).1), .int .i64 ((at' x3_0 v0_t_23).2.1), .int .i64 ((at' x3_0 v0_t_23).2.2.1), .int .i64 ((at' x3_0 v0_t_23).2.2.2.1), .int .i64 ((at' x3_0 v0_t_23).2.2.2.2)]) hs rfl rfl rfl ty40 rfl rfl (Nat.le_of_ble_eq_true rfl) rfl rfl ?_
      clear hs; intro w hs
      refine ow_nil ?_
      refine seqK_n ?_
      refine cw_seq ?_
      refine cw_region ?_
      refine ow_field (b := b138) (o := 0) fl40_0 rfl ?_
      refine ow_load (k := 0) (vs := [.int .i64 ((at' x3_0 v0_t_23).1), .int .i64 ((at' x3_0 v0_t_23).2.1), .int .i64 ((at' x3_0 v0_t_23).2.2.1), .int .i64 ((at' x3_0 v0_t_23).2.2.2.1)]) (v := .agg #[.int .i64 ((at' x3_0 v0_t_23).1), .int .i64 ((at' x3_0 v0_t_23).2.1), .int .i64 ((at' x3_0 v0_t_23).2.2.1), .int .i64 ((at' x3_0 v0_t_23).2.2.2.1)]) hs rfl rfl ty38 rfl rfl rfl ?_
      obtain ⟨r140, hr141, hm2⟩ := bind_some hm
      replace hm := hm2; clear hm2
      refine ow_call (fi := []) (vs := [.agg #[.int .i64 ((at' x3_0 v0_t_23).1), .int .i64 ((at' x3_0 v0_t_23).2.1), .int .i64 ((at' x3_0 v0_t_23).2.2.1), .int .i64 ((at' x3_0 v0_t_23).2.2.2.1)]]) (ca := []) rfl ⟨rfl, trivial⟩ en27 (f27_ok _ _ _ _ hr141 hs) ?_
      clear hs; rintro _ w ⟨J142, hle143, hs, rfl⟩
      replace hx0_2 := hx0_2.mono hle143
      replace hx1_2 := hx1_2.mono hle143
      replace hx3_0 := hx3_0.mono hle143
      replace hx3_1 := hx3_1.mono hle143
      replace hI5 := hI5.mono hle143
      replace hI10 := hI10.mono hle143
      replace hI19 := hI19.mono hle143
      refine ow_alloc hs ty49 rfl ?_
      clear hs; intro b144 w hs
      refine ow_store (k := 0) (vs := [.int .i64 r140.1, .int .i64 r140.2.1, .int .i64 r140.2.2.1, .int .i64 r140.2.2.2.1, .int .i64 r140.2.2.2.2.1, .int .i64 r140.2.2.2.2.2]) (cs' := [.int .i64 r140.1, .int .i64 r140.2.1, .int .i64 r140.2.2.1, .int .i64 r140.2.2.2.1, .int .i64 r140.2.2.2.2.1, .int .i64 r140.2.2.2.2.2]) hs rfl rfl rfl ty49 rfl rfl (Nat.le_of_ble_eq_true rfl) rfl rfl ?_
      clear hs; intro w hs
      refine ow_nil ?_
      refine seqK_n ?_
      refine cw_seq ?_
      obtain ⟨r146, hr147, hm2⟩ := bind_some hm
      replace hm := hm2; clear hm2
      by_cases hcg18_7_4 : (!r146) = true
      · rw [if_pos hcg18_7_4] at hm
        refine cw_drawF mixed rfl (fun f0 L f w => ∃ (Iq : Im), Im.le J142 Iq ∧ f = frL [(30, 0, .agg #[.int .i64 x0_0, .int .i64 x0_1, .slice ax0_2 x0_2.length cx0_2]), (31, 1, .agg #[.int .i64 r140.1, .int .i64 r140.2.1, .int .i64 r140.2.2.1, .int .i64 r140.2.2.2.1, .int .i64 r140.2.2.2.2.1, .int .i64 r140.2.2.2.2.2]), (32, 2, .bool r146), (33, 3, .bool (!r146)), (34, 4, .bool (!r146)), (35, 5, undef), (36, 6, undef), (37, 7, undef), (38, 8, undef), (39, 9, .bool true), (40, 10, .bool true), (41, 11, undef), (42, 12, undef), (43, 13, undef), (44, 14, undef), (45, 15, undef), (46, 16, undef), (47, 17, .bool true)] L f0 ∧ Sat Iq (blk b144 49 [.int .i64 r140.1, .int .i64 r140.2.1, .int .i64 r140.2.2.1, .int .i64 r140.2.2.2.1, .int .i64 r140.2.2.2.2.1, .int .i64 r140.2.2.2.2.2] :: blk b138 40 [.int .i64 ((at' x3_0 v0_t_23).1), .int .i64 ((at' x3_0 v0_t_23).2.1), .int .i64 ((at' x3_0 v0_t_23).2.2.1), .int .i64 ((at' x3_0 v0_t_23).2.2.2.1), .int .i64 ((at' x3_0 v0_t_23).2.2.2.2)] :: mp m13 kv38 vi64 v0_o_r14 :: blk b11 32 [.slice ax3_0 x3_0.length cx3_0, .slice ax3_1 x3_1.length cx3_1] :: F) w) ⟨J142, Im.le.refl _, (frL_ff _).symm, hs.drew⟩ ⟨?_, ?_, ?_, ?_, ?_, ?_, ?_, ?_, ?_, ?_, ?_, ?_, ?_, ?_, ?_, ?_, ?_, ?_, trivial⟩ ?_
        all_goals clear hs
        · rintro L f w _ hL ⟨Iq, hleq, rfl, hs⟩
          replace hx0_2 := hx0_2.mono hleq
          replace hx1_2 := hx1_2.mono hleq
          replace hx3_0 := hx3_0.mono hleq
          replace hx3_1 := hx3_1.mono hleq
          replace hI5 := hI5.mono hleq
          replace hI10 := hI10.mono hleq
          replace hI19 := hI19.mono hleq
          refine ow_loadI (vs := [.int .i64 x0_0, .int .i64 x0_1, .slice ax0_2 x0_2.length cx0_2]) (v := .agg #[.int .i64 x0_0, .int .i64 x0_1, .slice ax0_2 x0_2.length cx0_2]) hs hI5 ht4_L0 ty26 rfl rfl rfl ?_
          exact ow_nil ⟨rfl, rfl, Iq, hleq, frL_set rfl rfl, hs⟩
        · rintro L f w _ hL ⟨Iq, hleq, rfl, hs⟩
          replace hx0_2 := hx0_2.mono hleq
          replace hx1_2 := hx1_2.mono hleq
          replace hx3_0 := hx3_0.mono hleq
          replace hx3_1 := hx3_1.mono hleq
          replace hI5 := hI5.mono hleq
          replace hI10 := hI10.mono hleq
          replace hI19 := hI19.mono hleq
          refine ow_load (k := 0) (vs := [.int .i64 r140.1, .int .i64 r140.2.1, .int .i64 r140.2.2.1, .int .i64 r140.2.2.2.1, .int .i64 r140.2.2.2.2.1, .int .i64 r140.2.2.2.2.2]) (v := .agg #[.int .i64 r140.1, .int .i64 r140.2.1, .int .i64 r140.2.2.1, .int .i64 r140.2.2.2.1, .int .i64 r140.2.2.2.2.1, .int .i64 r140.2.2.2.2.2]) hs rfl rfl ty49 rfl rfl rfl ?_
          exact ow_nil ⟨rfl, rfl, Iq, hleq, frL_set rfl rfl, hs⟩
        · rintro L f w ⟨hL0, hL1, _⟩ hL ⟨Iq, hleq, rfl, hs⟩
          replace hx0_2 := hx0_2.mono hleq
          replace hx1_2 := hx1_2.mono hleq
          replace hx3_0 := hx3_0.mono hleq
          replace hx3_1 := hx3_1.mono hleq
          replace hI5 := hI5.mono hleq
          replace hI10 := hI10.mono hleq
          replace hI19 := hI19.mono hleq
          refine ow_call (fi := []) (vs := [.agg #[.int .i64 x0_0, .int .i64 x0_1, .slice ax0_2 x0_2.length cx0_2], .agg #[.int .i64 r140.1, .int .i64 r140.2.1, .int .i64 r140.2.2.1, .int .i64 r140.2.2.2.1, .int .i64 r140.2.2.2.2.1, .int .i64 r140.2.2.2.2.2]]) (ca := []) rfl ⟨(frL_get rfl hL0), (frL_get rfl hL1), trivial⟩ en28 (f28_ok _ _ _ _ _ _ _ _ _ hr147 hs hx0_2) ?_
          clear hs; rintro _ w ⟨J148, hle149, hs, rfl⟩
          replace hx0_2 := hx0_2.mono hle149
          replace hx1_2 := hx1_2.mono hle149
          replace hx3_0 := hx3_0.mono hle149
          replace hx3_1 := hx3_1.mono hle149
          replace hI5 := hI5.mono hle149
          replace hI10 := hI10.mono hle149
          replace hI19 := hI19.mono hle149
          exact ow_nil ⟨rfl, rfl, J148, (hleq.trans hle149), frL_set rfl rfl, hs⟩
        · rintro L f w ⟨hL2, _⟩ hL ⟨Iq, hleq, rfl, hs⟩
          replace hx0_2 := hx0_2.mono hleq
          replace hx1_2 := hx1_2.mono hleq
          replace hx3_0 := hx3_0.mono hleq
          replace hx3_1 := hx3_1.mono hleq
          replace hI5 := hI5.mono hleq
          replace hI10 := hI10.mono hleq
          replace hI19 := hI19.mono hleq
          refine ow_v (x_not (b := r146) (frL_get rfl hL2)) rfl ?_
          exact ow_nil ⟨rfl, rfl, Iq, hleq, frL_set rfl rfl, hs⟩
        · rintro L f w ⟨hL3, hL2, _⟩ hL ⟨Iq, hleq, rfl, hs⟩
          replace hx0_2 := hx0_2.mono hleq
          replace hx1_2 := hx1_2.mono hleq
          replace hx3_0 := hx3_0.mono hleq
          replace hx3_1 := hx3_1.mono hleq
          replace hI5 := hI5.mono hleq
          replace hI10 := hI10.mono hleq
          replace hI19 := hI19.mono hleq
          refine ow_v (x_move (v := .bool (!r146)) (frL_get rfl hL3)) rfl ?_
          exact ow_nil ⟨rfl, rfl, Iq, hleq, frL_set rfl rfl, hs⟩
        · rintro L f w ⟨hL4, _⟩ hL ⟨Iq, hleq, rfl, hs⟩
          replace hx0_2 := hx0_2.mono hleq
          replace hx1_2 := hx1_2.mono hleq
          replace hx3_0 := hx3_0.mono hleq
          replace hx3_1 := hx3_1.mono hleq
          replace hI5 := hI5.mono hleq
          replace hI10 := hI10.mono hleq
          replace hI19 := hI19.mono hleq
          refine ow_no (b := true) (yl_of rfl (frL_get rfl hL4) hcg18_7_4) rfl ?_
          exact ow_nil ⟨rfl, rfl, Iq, hleq, frL_set rfl rfl, hs⟩
        · rintro L f w ⟨hL5, hL4, _⟩ hL ⟨Iq, hleq, rfl, hs⟩
          replace hx0_2 := hx0_2.mono hleq
          replace hx1_2 := hx1_2.mono hleq
          replace hx3_0 := hx3_0.mono hleq
          replace hx3_1 := hx3_1.mono hleq
          replace hI5 := hI5.mono hleq
          replace hI10 := hI10.mono hleq
          replace hI19 := hI19.mono hleq
          refine ow_no (b := true) (yl_of rfl (frL_get rfl hL4) hcg18_7_4) rfl ?_
          exact ow_nil ⟨rfl, rfl, Iq, hleq, frL_set rfl rfl, hs⟩
        · rintro L f w ⟨hL4, _⟩ hL ⟨Iq, hleq, rfl, hs⟩
          replace hx0_2 := hx0_2.mono hleq
          replace hx1_2 := hx1_2.mono hleq
          replace hx3_0 := hx3_0.mono hleq
          replace hx3_1 := hx3_1.mono hleq
          replace hI5 := hI5.mono hleq
          replace hI10 := hI10.mono hleq
          replace hI19 := hI19.mono hleq
          refine ow_no (b := true) (yl_of rfl (frL_get rfl hL4) hcg18_7_4) rfl ?_
          exact ow_nil ⟨rfl, rfl, Iq, hleq, frL_set rfl rfl, hs⟩
        · rintro L f w ⟨hL6, hL7, hL4, _⟩ hL ⟨Iq, hleq, rfl, hs⟩
          replace hx0_2 := hx0_2.mono hleq
          replace hx1_2 := hx1_2.mono hleq
          replace hx3_0 := hx3_0.mono hleq
          replace hx3_1 := hx3_1.mono hleq
          replace hI5 := hI5.mono hleq
          replace hI10 := hI10.mono hleq
          replace hI19 := hI19.mono hleq
          refine ow_no (b := true) (yl_of rfl (frL_get rfl hL4) hcg18_7_4) rfl ?_
          exact ow_nil ⟨rfl, rfl, Iq, hleq, frL_set rfl rfl, hs⟩
        · rintro L f w ⟨hL4, hL8, _⟩ hL ⟨Iq, hleq, rfl, hs⟩
          replace hx0_2 := hx0_2.mono hleq
          replace hx1_2 := hx1_2.mono hleq
          replace hx3_0 := hx3_0.mono hleq
          replace hx3_1 := hx3_1.mono hleq
          replace hI5 := hI5.mono hleq
          replace hI10 := hI10.mono hleq
          replace hI19 := hI19.mono hleq
          refine ow_v (x_pick_tE (v := .bool true) (frL_get rfl hL4) hcg18_7_4 rfl) rfl ?_
          exact ow_nil ⟨rfl, rfl, Iq, hleq, frL_set rfl rfl, hs⟩
        · rintro L f w ⟨hL9, hL4, _⟩ hL ⟨Iq, hleq, rfl, hs⟩
          replace hx0_2 := hx0_2.mono hleq
          replace hx1_2 := hx1_2.mono hleq
          replace hx3_0 := hx3_0.mono hleq
          replace hx3_1 := hx3_1.mono hleq
          replace hI5 := hI5.mono hleq
          replace hI10 := hI10.mono hleq
          replace hI19 := hI19.mono hleq
          refine ow_v (x_move (v := .bool true) (frL_get rfl hL9)) rfl ?_
          exact ow_nil ⟨rfl, rfl, Iq, hleq, frL_set rfl rfl, hs⟩
        · rintro L f w ⟨hL10, _⟩ hL ⟨Iq, hleq, rfl, hs⟩
          replace hx0_2 := hx0_2.mono hleq
          replace hx1_2 := hx1_2.mono hleq
          replace hx3_0 := hx3_0.mono hleq
          replace hx3_1 := hx3_1.mono hleq
          replace hI5 := hI5.mono hleq
          replace hI10 := hI10.mono hleq
          replace hI19 := hI19.mono hleq
          refine ow_no (b := true) (yl_of rfl (frL_get rfl hL10) rfl) rfl ?_
          exact ow_nil ⟨rfl, rfl, Iq, hleq, frL_set rfl rfl, hs⟩
        · rintro L f w ⟨hL10, _⟩ hL ⟨Iq, hleq, rfl, hs⟩
          replace hx0_2 := hx0_2.mono hleq
          replace hx1_2 := hx1_2.mono hleq
          replace hx3_0 := hx3_0.mono hleq
          replace hx3_1 := hx3_1.mono hleq
          replace hI5 := hI5.mono hleq
          replace hI10 := hI10.mono hleq
          replace hI19 := hI19.mono hleq
          refine ow_no (b := true) (yl_of rfl (frL_get rfl hL10) rfl) rfl ?_
          exact ow_nil ⟨rfl, rfl, Iq, hleq, frL_set rfl rfl, hs⟩
        · rintro L f w ⟨hL11, hL12, hL10, _, _⟩ hL ⟨Iq, hleq, rfl, hs⟩
          replace hx0_2 := hx0_2.mono hleq
          replace hx1_2 := hx1_2.mono hleq
          replace hx3_0 := hx3_0.mono hleq
          replace hx3_1 := hx3_1.mono hleq
          replace hI5 := hI5.mono hleq
          replace hI10 := hI10.mono hleq
          replace hI19 := hI19.mono hleq
          refine ow_no (b := true) (yl_of rfl (frL_get rfl hL10) rfl) rfl ?_
          exact ow_nil ⟨rfl, rfl, Iq, hleq, frL_set rfl rfl, hs⟩
        · rintro L f w ⟨hL10, _⟩ hL ⟨Iq, hleq, rfl, hs⟩
          replace hx0_2 := hx0_2.mono hleq
          replace hx1_2 := hx1_2.mono hleq
          replace hx3_0 := hx3_0.mono hleq
          replace hx3_1 := hx3_1.mono hleq
          replace hI5 := hI5.mono hleq
          replace hI10 := hI10.mono hleq
          replace hI19 := hI19.mono hleq
          refine ow_no (b := true) (yl_of rfl (frL_get rfl hL10) rfl) rfl ?_
          exact ow_nil ⟨rfl, rfl, Iq, hleq, frL_set rfl rfl, hs⟩
        · rintro L f w ⟨hL14, hL10, _⟩ hL ⟨Iq, hleq, rfl, hs⟩
          replace hx0_2 := hx0_2.mono hleq
          replace hx1_2 := hx1_2.mono hleq
          replace hx3_0 := hx3_0.mono hleq
          replace hx3_1 := hx3_1.mono hleq
          replace hI5 := hI5.mono hleq
          replace hI10 := hI10.mono hleq
          replace hI19 := hI19.mono hleq
          refine ow_no (b := true) (yl_of rfl (frL_get rfl hL10) rfl) rfl ?_
          exact ow_nil ⟨rfl, rfl, Iq, hleq, frL_set rfl rfl, hs⟩
        · rintro L f w ⟨hL13, hL15, hL10, _⟩ hL ⟨Iq, hleq, rfl, hs⟩
          replace hx0_2 := hx0_2.mono hleq
          replace hx1_2 := hx1_2.mono hleq
          replace hx3_0 := hx3_0.mono hleq
          replace hx3_1 := hx3_1.mono hleq
          replace hI5 := hI5.mono hleq
          replace hI10 := hI10.mono hleq
          replace hI19 := hI19.mono hleq
          refine ow_no (b := true) (yl_of rfl (frL_get rfl hL10) rfl) rfl ?_
          exact ow_nil ⟨rfl, rfl, Iq, hleq, frL_set rfl rfl, hs⟩
        · rintro L f w ⟨hL10, hL16, _⟩ hL ⟨Iq, hleq, rfl, hs⟩
          replace hx0_2 := hx0_2.mono hleq
          replace hx1_2 := hx1_2.mono hleq
          replace hx3_0 := hx3_0.mono hleq
          replace hx3_1 := hx3_1.mono hleq
          replace hI5 := hI5.mono hleq
          replace hI10 := hI10.mono hleq
          replace hI19 := hI19.mono hleq
          refine ow_v (x_pick_t (v := .bool true) (frL_get rfl hL10) rfl) rfl ?_
          exact ow_nil ⟨rfl, rfl, Iq, hleq, frL_set rfl rfl, hs⟩
        rintro L f w hall ⟨I151, hle150, rfl, hs⟩
        rw [frL_tt _ rfl hall]
        replace hx0_2 := hx0_2.mono hle150
        replace hx1_2 := hx1_2.mono hle150
        replace hx3_0 := hx3_0.mono hle150
        replace hx3_1 := hx3_1.mono hle150
        replace hI5 := hI5.mono hle150
        replace hI10 := hI10.mono hle150
        replace hI19 := hI19.mono hle150
        refine seqK_n ?_
        refine cw_cond_t rfl ?_
        refine cw_seq ?_
        refine cw_region ?_
        refine ow_v (x_assign (v := .bool false) rfl) rfl ?_
        refine ow_nil ?_
        refine seqK_n ?_
        refine cw_ret ?_
        refine blockK_r ?_
        refine seqK_r ?_
        refine loopK_r ?_
        refine blockK_r ?_
        refine joinK_r ?_
        refine ret_ok (rs := [.tmp 8]) (vs := [.bool false]) (.inr rfl) rfl ⟨rfl, trivial⟩ ?_
        replace hm := lret hm hq88
        obtain rfl := Option.some.inj hm
        replace hs := hs.erase 0
        replace hs := hs.erase 0
        replace hs := hs.erase 0
        replace hs := hs.erase 0
        exact ⟨I151, (((((hle4.trans hle9).trans hle18).trans hle135).trans hle143).trans hle150), hs, rfl⟩
      · rw [if_neg hcg18_7_4] at hm
        by_cases hcg18_7_10 : x2 < ((at' x3_0 v0_t_23).2.2.2.2)
        · rw [if_pos hcg18_7_10] at hm
          refine cw_drawF mixed rfl (fun f0 L f w => ∃ (Iq : Im), Im.le J142 Iq ∧ f = frL [(30, 0, .agg #[.int .i64 x0_0, .int .i64 x0_1, .slice ax0_2 x0_2.length cx0_2]), (31, 1, .agg #[.int .i64 r140.1, .int .i64 r140.2.1, .int .i64 r140.2.2.1, .int .i64 r140.2.2.2.1, .int .i64 r140.2.2.2.2.1, .int .i64 r140.2.2.2.2.2]), (32, 2, .bool r146), (33, 3, .bool (!r146)), (34, 4, .bool (!r146)), (35, 5, .pointer (some ⟨b138, 4, none⟩)), (36, 6, .int .i64 ((at' x3_0 v0_t_23).2.2.2.2)), (37, 7, .int .i64 x2), (38, 8, .bool (decide (x2 < ((at' x3_0 v0_t_23).2.2.2.2)))), (39, 9, .bool (decide (x2 < ((at' x3_0 v0_t_23).2.2.2.2)))), (40, 10, .bool (decide (x2 < ((at' x3_0 v0_t_23).2.2.2.2)))), (41, 11, undef), (42, 12, undef), (43, 13, undef), (44, 14, undef), (45, 15, undef), (46, 16, undef), (47, 17, .bool true)] L f0 ∧ Sat Iq (blk b144 49 [.int .i64 r140.1, .int .i64 r140.2.1, .int .i64 r140.2.2.1, .int .i64 r140.2.2.2.1, .int .i64 r140.2.2.2.2.1, .int .i64 r140.2.2.2.2.2] :: blk b138 40 [.int .i64 ((at' x3_0 v0_t_23).1), .int .i64 ((at' x3_0 v0_t_23).2.1), .int .i64 ((at' x3_0 v0_t_23).2.2.1), .int .i64 ((at' x3_0 v0_t_23).2.2.2.1), .int .i64 ((at' x3_0 v0_t_23).2.2.2.2)] :: mp m13 kv38 vi64 v0_o_r14 :: blk b11 32 [.slice ax3_0 x3_0.length cx3_0, .slice ax3_1 x3_1.length cx3_1] :: F) w) ⟨J142, Im.le.refl _, (frL_ff _).symm, hs.drew⟩ ⟨?_, ?_, ?_, ?_, ?_, ?_, ?_, ?_, ?_, ?_, ?_, ?_, ?_, ?_, ?_, ?_, ?_, ?_, trivial⟩ ?_
          all_goals clear hs
          · rintro L f w _ hL ⟨Iq, hleq, rfl, hs⟩
            replace hx0_2 := hx0_2.mono hleq
            replace hx1_2 := hx1_2.mono hleq
            replace hx3_0 := hx3_0.mono hleq
            replace hx3_1 := hx3_1.mono hleq
            replace hI5 := hI5.mono hleq
            replace hI10 := hI10.mono hleq
            replace hI19 := hI19.mono hleq
            refine ow_loadI (vs := [.int .i64 x0_0, .int .i64 x0_1, .slice ax0_2 x0_2.length cx0_2]) (v := .agg #[.int .i64 x0_0, .int .i64 x0_1, .slice ax0_2 x0_2.length cx0_2]) hs hI5 ht4_L0 ty26 rfl rfl rfl ?_
            exact ow_nil ⟨rfl, rfl, Iq, hleq, frL_set rfl rfl, hs⟩
          · rintro L f w _ hL ⟨Iq, hleq, rfl, hs⟩
            replace hx0_2 := hx0_2.mono hleq
            replace hx1_2 := hx1_2.mono hleq
            replace hx3_0 := hx3_0.mono hleq
            replace hx3_1 := hx3_1.mono hleq
            replace hI5 := hI5.mono hleq
            replace hI10 := hI10.mono hleq
            replace hI19 := hI19.mono hleq
            refine ow_load (k := 0) (vs := [.int .i64 r140.1, .int .i64 r140.2.1, .int .i64 r140.2.2.1, .int .i64 r140.2.2.2.1, .int .i64 r140.2.2.2.2.1, .int .i64 r140.2.2.2.2.2]) (v := .agg #[.int .i64 r140.1, .int .i64 r140.2.1, .int .i64 r140.2.2.1, .int .i64 r140.2.2.2.1, .int .i64 r140.2.2.2.2.1, .int .i64 r140.2.2.2.2.2]) hs rfl rfl ty49 rfl rfl rfl ?_
            exact ow_nil ⟨rfl, rfl, Iq, hleq, frL_set rfl rfl, hs⟩
          · rintro L f w ⟨hL0, hL1, _⟩ hL ⟨Iq, hleq, rfl, hs⟩
            replace hx0_2 := hx0_2.mono hleq
            replace hx1_2 := hx1_2.mono hleq
            replace hx3_0 := hx3_0.mono hleq
            replace hx3_1 := hx3_1.mono hleq
            replace hI5 := hI5.mono hleq
            replace hI10 := hI10.mono hleq
            replace hI19 := hI19.mono hleq
            refine ow_call (fi := []) (vs := [.agg #[.int .i64 x0_0, .int .i64 x0_1, .slice ax0_2 x0_2.length cx0_2], .agg #[.int .i64 r140.1, .int .i64 r140.2.1, .int .i64 r140.2.2.1, .int .i64 r140.2.2.2.1, .int .i64 r140.2.2.2.2.1, .int .i64 r140.2.2.2.2.2]]) (ca := []) rfl ⟨(frL_get rfl hL0), (frL_get rfl hL1), trivial⟩ en28 (f28_ok _ _ _ _ _ _ _ _ _ hr147 hs hx0_2) ?_
            clear hs; rintro _ w ⟨J148, hle149, hs, rfl⟩
            replace hx0_2 := hx0_2.mono hle149
            replace hx1_2 := hx1_2.mono hle149
            replace hx3_0 := hx3_0.mono hle149
            replace hx3_1 := hx3_1.mono hle149
            replace hI5 := hI5.mono hle149
            replace hI10 := hI10.mono hle149
            replace hI19 := hI19.mono hle149
            exact ow_nil ⟨rfl, rfl, J148, (hleq.trans hle149), frL_set rfl rfl, hs⟩
          · rintro L f w ⟨hL2, _⟩ hL ⟨Iq, hleq, rfl, hs⟩
            replace hx0_2 := hx0_2.mono hleq
            replace hx1_2 := hx1_2.mono hleq
            replace hx3_0 := hx3_0.mono hleq
            replace hx3_1 := hx3_1.mono hleq
            replace hI5 := hI5.mono hleq
            replace hI10 := hI10.mono hleq
            replace hI19 := hI19.mono hleq
            refine ow_v (x_not (b := r146) (frL_get rfl hL2)) rfl ?_
            exact ow_nil ⟨rfl, rfl, Iq, hleq, frL_set rfl rfl, hs⟩
          · rintro L f w ⟨hL3, hL2, _⟩ hL ⟨Iq, hleq, rfl, hs⟩
            replace hx0_2 := hx0_2.mono hleq
            replace hx1_2 := hx1_2.mono hleq
            replace hx3_0 := hx3_0.mono hleq
            replace hx3_1 := hx3_1.mono hleq
            replace hI5 := hI5.mono hleq
            replace hI10 := hI10.mono hleq
            replace hI19 := hI19.mono hleq
            refine ow_v (x_move (v := .bool (!r146)) (frL_get rfl hL3)) rfl ?_
            exact ow_nil ⟨rfl, rfl, Iq, hleq, frL_set rfl rfl, hs⟩
          · rintro L f w ⟨hL4, _⟩ hL ⟨Iq, hleq, rfl, hs⟩
            replace hx0_2 := hx0_2.mono hleq
            replace hx1_2 := hx1_2.mono hleq
            replace hx3_0 := hx3_0.mono hleq
            replace hx3_1 := hx3_1.mono hleq
            replace hI5 := hI5.mono hleq
            replace hI10 := hI10.mono hleq
            replace hI19 := hI19.mono hleq
            refine ow_go (yl_of rfl (frL_get rfl hL4) (Bool.eq_false_iff.2 hcg18_7_4)) ?_
            refine ow_field (b := b138) (o := 0) fl40_1 rfl ?_
            exact ow_nil ⟨rfl, rfl, Iq, hleq, frL_set rfl rfl, hs⟩
          · rintro L f w ⟨hL5, hL4, _⟩ hL ⟨Iq, hleq, rfl, hs⟩
            replace hx0_2 := hx0_2.mono hleq
            replace hx1_2 := hx1_2.mono hleq
            replace hx3_0 := hx3_0.mono hleq
            replace hx3_1 := hx3_1.mono hleq
            replace hI5 := hI5.mono hleq
            replace hI10 := hI10.mono hleq
            replace hI19 := hI19.mono hleq
            refine ow_go (yl_of rfl (frL_get rfl hL4) (Bool.eq_false_iff.2 hcg18_7_4)) ?_
            refine ow_load (k := 1) (vs := [.int .i64 ((at' x3_0 v0_t_23).2.2.2.2)]) (v := .int .i64 ((at' x3_0 v0_t_23).2.2.2.2)) hs rfl (frL_get rfl hL5) ty3 rfl rfl rfl ?_
            exact ow_nil ⟨rfl, rfl, Iq, hleq, frL_set rfl rfl, hs⟩
          · rintro L f w ⟨hL4, _⟩ hL ⟨Iq, hleq, rfl, hs⟩
            replace hx0_2 := hx0_2.mono hleq
            replace hx1_2 := hx1_2.mono hleq
            replace hx3_0 := hx3_0.mono hleq
            replace hx3_1 := hx3_1.mono hleq
            replace hI5 := hI5.mono hleq
            replace hI10 := hI10.mono hleq
            replace hI19 := hI19.mono hleq
            refine ow_go (yl_of rfl (frL_get rfl hL4) (Bool.eq_false_iff.2 hcg18_7_4)) ?_
            refine ow_v (x_move (v := .int .i64 x2) ht2_L0) rfl ?_
            exact ow_nil ⟨rfl, rfl, Iq, hleq, frL_set rfl rfl, hs⟩
          · rintro L f w ⟨hL6, hL7, hL4, _⟩ hL ⟨Iq, hleq, rfl, hs⟩
            replace hx0_2 := hx0_2.mono hleq
            replace hx1_2 := hx1_2.mono hleq
            replace hx3_0 := hx3_0.mono hleq
            replace hx3_1 := hx3_1.mono hleq
            replace hI5 := hI5.mono hleq
            replace hI10 := hI10.mono hleq
            replace hI19 := hI19.mono hleq
            refine ow_go (yl_of rfl (frL_get rfl hL4) (Bool.eq_false_iff.2 hcg18_7_4)) ?_
            refine ow_v (x_gtr (k := .i64) (a := ((at' x3_0 v0_t_23).2.2.2.2)) (b := x2) (frL_get rfl hL6) (frL_get rfl hL7)) rfl ?_
            exact ow_nil ⟨rfl, rfl, Iq, hleq, frL_set rfl rfl, hs⟩
          · rintro L f w ⟨hL4, hL8, _⟩ hL ⟨Iq, hleq, rfl, hs⟩
            replace hx0_2 := hx0_2.mono hleq
            replace hx1_2 := hx1_2.mono hleq
            replace hx3_0 := hx3_0.mono hleq
            replace hx3_1 := hx3_1.mono hleq
            replace hI5 := hI5.mono hleq
            replace hI10 := hI10.mono hleq
            replace hI19 := hI19.mono hleq
            refine ow_v (x_pick_fE (v := .bool (decide (x2 < ((at' x3_0 v0_t_23).2.2.2.2)))) (frL_get rfl hL4) (Bool.eq_false_iff.2 hcg18_7_4) (frL_get rfl hL8)) rfl ?_
            exact ow_nil ⟨rfl, rfl, Iq, hleq, frL_set rfl rfl, hs⟩
          · rintro L f w ⟨hL9, hL4, _⟩ hL ⟨Iq, hleq, rfl, hs⟩
            replace hx0_2 := hx0_2.mono hleq
            replace hx1_2 := hx1_2.mono hleq
            replace hx3_0 := hx3_0.mono hleq
            replace hx3_1 := hx3_1.mono hleq
            replace hI5 := hI5.mono hleq
            replace hI10 := hI10.mono hleq
            replace hI19 := hI19.mono hleq
            refine ow_v (x_move (v := .bool (decide (x2 < ((at' x3_0 v0_t_23).2.2.2.2)))) (frL_get rfl hL9)) rfl ?_
            exact ow_nil ⟨rfl, rfl, Iq, hleq, frL_set rfl rfl, hs⟩
          · rintro L f w ⟨hL10, _⟩ hL ⟨Iq, hleq, rfl, hs⟩
            replace hx0_2 := hx0_2.mono hleq
            replace hx1_2 := hx1_2.mono hleq
            replace hx3_0 := hx3_0.mono hleq
            replace hx3_1 := hx3_1.mono hleq
            replace hI5 := hI5.mono hleq
            replace hI10 := hI10.mono hleq
            replace hI19 := hI19.mono hleq
            refine ow_no (b := true) (yl_of rfl (frL_get rfl hL10) (decide_eq_true hcg18_7_10)) rfl ?_
            exact ow_nil ⟨rfl, rfl, Iq, hleq, frL_set rfl rfl, hs⟩
          · rintro L f w ⟨hL10, _⟩ hL ⟨Iq, hleq, rfl, hs⟩
            replace hx0_2 := hx0_2.mono hleq
            replace hx1_2 := hx1_2.mono hleq
            replace hx3_0 := hx3_0.mono hleq
            replace hx3_1 := hx3_1.mono hleq
            replace hI5 := hI5.mono hleq
            replace hI10 := hI10.mono hleq
            replace hI19 := hI19.mono hleq
            refine ow_no (b := true) (yl_of rfl (frL_get rfl hL10) (decide_eq_true hcg18_7_10)) rfl ?_
            exact ow_nil ⟨rfl, rfl, Iq, hleq, frL_set rfl rfl, hs⟩
          · rintro L f w ⟨hL11, hL12, hL10, _, _⟩ hL ⟨Iq, hleq, rfl, hs⟩
            replace hx0_2 := hx0_2.mono hleq
            replace hx1_2 := hx1_2.mono hleq
            replace hx3_0 := hx3_0.mono hleq
            replace hx3_1 := hx3_1.mono hleq
            replace hI5 := hI5.mono hleq
            replace hI10 := hI10.mono hleq
            replace hI19 := hI19.mono hleq
            refine ow_no (b := true) (yl_of rfl (frL_get rfl hL10) (decide_eq_true hcg18_7_10)) rfl ?_
            exact ow_nil ⟨rfl, rfl, Iq, hleq, frL_set rfl rfl, hs⟩
          · rintro L f w ⟨hL10, _⟩ hL ⟨Iq, hleq, rfl, hs⟩
            replace hx0_2 := hx0_2.mono hleq
            replace hx1_2 := hx1_2.mono hleq
            replace hx3_0 := hx3_0.mono hleq
            replace hx3_1 := hx3_1.mono hleq
            replace hI5 := hI5.mono hleq
            replace hI10 := hI10.mono hleq
            replace hI19 := hI19.mono hleq
            refine ow_no (b := true) (yl_of rfl (frL_get rfl hL10) (decide_eq_true hcg18_7_10)) rfl ?_
            exact ow_nil ⟨rfl, rfl, Iq, hleq, frL_set rfl rfl, hs⟩
          · rintro L f w ⟨hL14, hL10, _⟩ hL ⟨Iq, hleq, rfl, hs⟩
            replace hx0_2 := hx0_2.mono hleq
            replace hx1_2 := hx1_2.mono hleq
            replace hx3_0 := hx3_0.mono hleq
            replace hx3_1 := hx3_1.mono hleq
            replace hI5 := hI5.mono hleq
            replace hI10 := hI10.mono hleq
            replace hI19 := hI19.mono hleq
            refine ow_no (b := true) (yl_of rfl (frL_get rfl hL10) (decide_eq_true hcg18_7_10)) rfl ?_
            exact ow_nil ⟨rfl, rfl, Iq, hleq, frL_set rfl rfl, hs⟩
          · rintro L f w ⟨hL13, hL15, hL10, _⟩ hL ⟨Iq, hleq, rfl, hs⟩
            replace hx0_2 := hx0_2.mono hleq
            replace hx1_2 := hx1_2.mono hleq
            replace hx3_0 := hx3_0.mono hleq
            replace hx3_1 := hx3_1.mono hleq
            replace hI5 := hI5.mono hleq
            replace hI10 := hI10.mono hleq
            replace hI19 := hI19.mono hleq
            refine ow_no (b := true) (yl_of rfl (frL_get rfl hL10) (decide_eq_true hcg18_7_10)) rfl ?_
            exact ow_nil ⟨rfl, rfl, Iq, hleq, frL_set rfl rfl, hs⟩
          · rintro L f w ⟨hL10, hL16, _⟩ hL ⟨Iq, hleq, rfl, hs⟩
            replace hx0_2 := hx0_2.mono hleq
            replace hx1_2 := hx1_2.mono hleq
            replace hx3_0 := hx3_0.mono hleq
            replace hx3_1 := hx3_1.mono hleq
            replace hI5 := hI5.mono hleq
            replace hI10 := hI10.mono hleq
            replace hI19 := hI19.mono hleq
            refine ow_v (x_pick_tE (v := .bool true) (frL_get rfl hL10) (decide_eq_true hcg18_7_10) rfl) rfl ?_
            exact ow_nil ⟨rfl, rfl, Iq, hleq, frL_set rfl rfl, hs⟩
          rintro L f w hall ⟨I151, hle150, rfl, hs⟩
          rw [frL_tt _ rfl hall]
          replace hx0_2 := hx0_2.mono hle150
          replace hx1_2 := hx1_2.mono hle150
          replace hx3_0 := hx3_0.mono hle150
          replace hx3_1 := hx3_1.mono hle150
          replace hI5 := hI5.mono hle150
          replace hI10 := hI10.mono hle150
          replace hI19 := hI19.mono hle150
          refine seqK_n ?_
          refine cw_cond_t rfl ?_
          refine cw_seq ?_
          refine cw_region ?_
          refine ow_v (x_assign (v := .bool false) rfl) rfl ?_
          refine ow_nil ?_
          refine seqK_n ?_
          refine cw_ret ?_
          refine blockK_r ?_
          refine seqK_r ?_
          refine loopK_r ?_
          refine blockK_r ?_
          refine joinK_r ?_
          refine ret_ok (rs := [.tmp 8]) (vs := [.bool false]) (.inr rfl) rfl ⟨rfl, trivial⟩ ?_
          replace hm := lret hm hq88
          obtain rfl := Option.some.inj hm
          replace hs := hs.erase 0
          replace hs := hs.erase 0
          replace hs := hs.erase 0
          replace hs := hs.erase 0
          exact ⟨I151, (((((hle4.trans hle9).trans hle18).trans hle135).trans hle143).trans hle150), hs, rfl⟩
        · rw [if_neg hcg18_7_10] at hm
          obtain ⟨r150, hr151, hm2⟩ := bind_some hm
          replace hm := hm2; clear hm2
          refine cw_drawF mixed rfl (fun f0 L f w => ∃ (Iq : Im), Im.le J142 Iq ∧ f = frL [(30, 0, .agg #[.int .i64 x0_0, .int .i64 x0_1, .slice ax0_2 x0_2.length cx0_2]), (31, 1, .agg #[.int .i64 r140.1, .int .i64 r140.2.1, .int .i64 r140.2.2.1, .int .i64 r140.2.2.2.1, .int .i64 r140.2.2.2.2.1, .int .i64 r140.2.2.2.2.2]), (32, 2, .bool r146), (33, 3, .bool (!r146)), (34, 4, .bool (!r146)), (35, 5, .pointer (some ⟨b138, 4, none⟩)), (36, 6, .int .i64 ((at' x3_0 v0_t_23).2.2.2.2)), (37, 7, .int .i64 x2), (38, 8, .bool (decide (x2 < ((at' x3_0 v0_t_23).2.2.2.2)))), (39, 9, .bool (decide (x2 < ((at' x3_0 v0_t_23).2.2.2.2)))), (40, 10, .bool (decide (x2 < ((at' x3_0 v0_t_23).2.2.2.2)))), (41, 11, .func (.func 26) #[] #[.pointer (some ⟨b15, 0, none⟩), .pointer (some ⟨b6, 0, none⟩), .pointer (some ⟨b1, 0, none⟩)]), (42, 12, .agg #[.int .i64 r140.1, .int .i64 r140.2.1, .int .i64 r140.2.2.1, .int .i64 r140.2.2.2.1, .int .i64 r140.2.2.2.2.1, .int .i64 r140.2.2.2.2.2]), (43, 13, .int .i64 r150.1), (44, 14, .pointer (some ⟨b138, 4, none⟩)), (45, 15, .int .i64 ((at' x3_0 v0_t_23).2.2.2.2)), (46, 16, .bool (decide (¬ (r150.1 = ((at' x3_0 v0_t_23).2.2.2.2))))), (47, 17, .bool (decide (¬ (r150.1 = ((at' x3_0 v0_t_23).2.2.2.2)))))] L f0 ∧ Sat Iq (blk b144 49 [.int .i64 r140.1, .int .i64 r140.2.1, .int .i64 r140.2.2.1, .int .i64 r140.2.2.2.1, .int .i64 r140.2.2.2.2.1, .int .i64 r140.2.2.2.2.2] :: blk b138 40 [.int .i64 ((at' x3_0 v0_t_23).1), .int .i64 ((at' x3_0 v0_t_23).2.1), .int .i64 ((at' x3_0 v0_t_23).2.2.1), .int .i64 ((at' x3_0 v0_t_23).2.2.2.1), .int .i64 ((at' x3_0 v0_t_23).2.2.2.2)] :: rL [(13, mp m13 kv38 vi64 r150.2)] (mp m13 kv38 vi64 v0_o_r14) L :: blk b11 32 [.slice ax3_0 x3_0.length cx3_0, .slice ax3_1 x3_1.length cx3_1] :: F) w) ⟨J142, Im.le.refl _, (frL_ff _).symm, hs.drew⟩ ⟨?_, ?_, ?_, ?_, ?_, ?_, ?_, ?_, ?_, ?_, ?_, ?_, ?_, ?_, ?_, ?_, ?_, ?_, trivial⟩ ?_
          all_goals clear hs
          · rintro L f w _ hL ⟨Iq, hleq, rfl, hs⟩
            replace hx0_2 := hx0_2.mono hleq
            replace hx1_2 := hx1_2.mono hleq
            replace hx3_0 := hx3_0.mono hleq
            replace hx3_1 := hx3_1.mono hleq
            replace hI5 := hI5.mono hleq
            replace hI10 := hI10.mono hleq
            replace hI19 := hI19.mono hleq
            refine ow_loadI (vs := [.int .i64 x0_0, .int .i64 x0_1, .slice ax0_2 x0_2.length cx0_2]) (v := .agg #[.int .i64 x0_0, .int .i64 x0_1, .slice ax0_2 x0_2.length cx0_2]) hs hI5 ht4_L0 ty26 rfl rfl rfl ?_
            exact ow_nil ⟨rfl, rfl, Iq, hleq, frL_set rfl rfl, hs⟩
          · rintro L f w _ hL ⟨Iq, hleq, rfl, hs⟩
            replace hx0_2 := hx0_2.mono hleq
            replace hx1_2 := hx1_2.mono hleq
            replace hx3_0 := hx3_0.mono hleq
            replace hx3_1 := hx3_1.mono hleq
            replace hI5 := hI5.mono hleq
            replace hI10 := hI10.mono hleq
            replace hI19 := hI19.mono hleq
            refine ow_load (k := 0) (vs := [.int .i64 r140.1, .int .i64 r140.2.1, .int .i64 r140.2.2.1, .int .i64 r140.2.2.2.1, .int .i64 r140.2.2.2.2.1, .int .i64 r140.2.2.2.2.2]) (v := .agg #[.int .i64 r140.1, .int .i64 r140.2.1, .int .i64 r140.2.2.1, .int .i64 r140.2.2.2.1, .int .i64 r140.2.2.2.2.1, .int .i64 r140.2.2.2.2.2]) hs rfl rfl ty49 rfl rfl rfl ?_
            exact ow_nil ⟨rfl, rfl, Iq, hleq, frL_set rfl rfl, hs⟩
          · rintro L f w ⟨hL0, hL1, _⟩ hL ⟨Iq, hleq, rfl, hs⟩
            replace hx0_2 := hx0_2.mono hleq
            replace hx1_2 := hx1_2.mono hleq
            replace hx3_0 := hx3_0.mono hleq
            replace hx3_1 := hx3_1.mono hleq
            replace hI5 := hI5.mono hleq
            replace hI10 := hI10.mono hleq
            replace hI19 := hI19.mono hleq
            refine ow_call (fi := []) (vs := [.agg #[.int .i64 x0_0, .int .i64 x0_1, .slice ax0_2 x0_2.length cx0_2], .agg #[.int .i64 r140.1, .int .i64 r140.2.1, .int .i64 r140.2.2.1, .int .i64 r140.2.2.2.1, .int .i64 r140.2.2.2.2.1, .int .i64 r140.2.2.2.2.2]]) (ca := []) rfl ⟨(frL_get rfl hL0), (frL_get rfl hL1), trivial⟩ en28 (f28_ok _ _ _ _ _ _ _ _ _ hr147 hs hx0_2) ?_
            clear hs; rintro _ w ⟨J148, hle149, hs, rfl⟩
            replace hx0_2 := hx0_2.mono hle149
            replace hx1_2 := hx1_2.mono hle149
            replace hx3_0 := hx3_0.mono hle149
            replace hx3_1 := hx3_1.mono hle149
            replace hI5 := hI5.mono hle149
            replace hI10 := hI10.mono hle149
            replace hI19 := hI19.mono hle149
            exact ow_nil ⟨rfl, rfl, J148, (hleq.trans hle149), frL_set rfl rfl, hs⟩
          · rintro L f w ⟨hL2, _⟩ hL ⟨Iq, hleq, rfl, hs⟩
            replace hx0_2 := hx0_2.mono hleq
            replace hx1_2 := hx1_2.mono hleq
            replace hx3_0 := hx3_0.mono hleq
            replace hx3_1 := hx3_1.mono hleq
            replace hI5 := hI5.mono hleq
            replace hI10 := hI10.mono hleq
            replace hI19 := hI19.mono hleq
            refine ow_v (x_not (b := r146) (frL_get rfl hL2)) rfl ?_
            exact ow_nil ⟨rfl, rfl, Iq, hleq, frL_set rfl rfl, hs⟩
          · rintro L f w ⟨hL3, hL2, _⟩ hL ⟨Iq, hleq, rfl, hs⟩
            replace hx0_2 := hx0_2.mono hleq
            replace hx1_2 := hx1_2.mono hleq
            replace hx3_0 := hx3_0.mono hleq
            replace hx3_1 := hx3_1.mono hleq
            replace hI5 := hI5.mono hleq
            replace hI10 := hI10.mono hleq
            replace hI19 := hI19.mono hleq
            refine ow_v (x_move (v := .bool (!r146)) (frL_get rfl hL3)) rfl ?_
            exact ow_nil ⟨rfl, rfl, Iq, hleq, frL_set rfl rfl, hs⟩
          · rintro L f w ⟨hL4, _⟩ hL ⟨Iq, hleq, rfl, hs⟩
            replace hx0_2 := hx0_2.mono hleq
            replace hx1_2 := hx1_2.mono hleq
            replace hx3_0 := hx3_0.mono hleq
            replace hx3_1 := hx3_1.mono hleq
            replace hI5 := hI5.mono hleq
            replace hI10 := hI10.mono hleq
            replace hI19 := hI19.mono hleq
            refine ow_go (yl_of rfl (frL_get rfl hL4) (Bool.eq_false_iff.2 hcg18_7_4)) ?_
            refine ow_field (b := b138) (o := 0) fl40_1 rfl ?_
            exact ow_nil ⟨rfl, rfl, Iq, hleq, frL_set rfl rfl, hs⟩
          · rintro L f w ⟨hL5, hL4, _⟩ hL ⟨Iq, hleq, rfl, hs⟩
            replace hx0_2 := hx0_2.mono hleq
            replace hx1_2 := hx1_2.mono hleq
            replace hx3_0 := hx3_0.mono hleq
            replace hx3_1 := hx3_1.mono hleq
            replace hI5 := hI5.mono hleq
            replace hI10 := hI10.mono hleq
            replace hI19 := hI19.mono hleq
            refine ow_go (yl_of rfl (frL_get rfl hL4) (Bool.eq_false_iff.2 hcg18_7_4)) ?_
            refine ow_load (k := 1) (vs := [.int .i64 ((at' x3_0 v0_t_23).2.2.2.2)]) (v := .int .i64 ((at' x3_0 v0_t_23).2.2.2.2)) hs rfl (frL_get rfl hL5) ty3 rfl rfl rfl ?_
            exact ow_nil ⟨rfl, rfl, Iq, hleq, frL_set rfl rfl, hs⟩
          · rintro L f w ⟨hL4, _⟩ hL ⟨Iq, hleq, rfl, hs⟩
            replace hx0_2 := hx0_2.mono hleq
            replace hx1_2 := hx1_2.mono hleq
            replace hx3_0 := hx3_0.mono hleq
            replace hx3_1 := hx3_1.mono hleq
            replace hI5 := hI5.mono hleq
            replace hI10 := hI10.mono hleq
            replace hI19 := hI19.mono hleq
            refine ow_go (yl_of rfl (frL_get rfl hL4) (Bool.eq_false_iff.2 hcg18_7_4)) ?_
            refine ow_v (x_move (v := .int .i64 x2) ht2_L0) rfl ?_
            exact ow_nil ⟨rfl, rfl, Iq, hleq, frL_set rfl rfl, hs⟩
          · rintro L f w ⟨hL6, hL7, hL4, _⟩ hL ⟨Iq, hleq, rfl, hs⟩
            replace hx0_2 := hx0_2.mono hleq
            replace hx1_2 := hx1_2.mono hleq
            replace hx3_0 := hx3_0.mono hleq
            replace hx3_1 := hx3_1.mono hleq
            replace hI5 := hI5.mono hleq
            replace hI10 := hI10.mono hleq
            replace hI19 := hI19.mono hleq
            refine ow_go (yl_of rfl (frL_get rfl hL4) (Bool.eq_false_iff.2 hcg18_7_4)) ?_
            refine ow_v (x_gtr (k := .i64) (a := ((at' x3_0 v0_t_23).2.2.2.2)) (b := x2) (frL_get rfl hL6) (frL_get rfl hL7)) rfl ?_
            exact ow_nil ⟨rfl, rfl, Iq, hleq, frL_set rfl rfl, hs⟩
          · rintro L f w ⟨hL4, hL8, _⟩ hL ⟨Iq, hleq, rfl, hs⟩
            replace hx0_2 := hx0_2.mono hleq
            replace hx1_2 := hx1_2.mono hleq
            replace hx3_0 := hx3_0.mono hleq
            replace hx3_1 := hx3_1.mono hleq
            replace hI5 := hI5.mono hleq
            replace hI10 := hI10.mono hleq
            replace hI19 := hI19.mono hleq
            refine ow_v (x_pick_fE (v := .bool (decide (x2 < ((at' x3_0 v0_t_23).2.2.2.2)))) (frL_get rfl hL4) (Bool.eq_false_iff.2 hcg18_7_4) (frL_get rfl hL8)) rfl ?_
            exact ow_nil ⟨rfl, rfl, Iq, hleq, frL_set rfl rfl, hs⟩
          · rintro L f w ⟨hL9, hL4, _⟩ hL ⟨Iq, hleq, rfl, hs⟩
            replace hx0_2 := hx0_2.mono hleq
            replace hx1_2 := hx1_2.mono hleq
            replace hx3_0 := hx3_0.mono hleq
            replace hx3_1 := hx3_1.mono hleq
            replace hI5 := hI5.mono hleq
            replace hI10 := hI10.mono hleq
            replace hI19 := hI19.mono hleq
            refine ow_v (x_move (v := .bool (decide (x2 < ((at' x3_0 v0_t_23).2.2.2.2)))) (frL_get rfl hL9)) rfl ?_
            exact ow_nil ⟨rfl, rfl, Iq, hleq, frL_set rfl rfl, hs⟩
          · rintro L f w ⟨hL10, _⟩ hL ⟨Iq, hleq, rfl, hs⟩
            replace hx0_2 := hx0_2.mono hleq
            replace hx1_2 := hx1_2.mono hleq
            replace hx3_0 := hx3_0.mono hleq
            replace hx3_1 := hx3_1.mono hleq
            replace hI5 := hI5.mono hleq
            replace hI10 := hI10.mono hleq
            replace hI19 := hI19.mono hleq
            refine ow_go (yl_of rfl (frL_get rfl hL10) (decide_eq_false hcg18_7_10)) ?_
            refine ow_v (x_move (v := .func (.func 26) #[] #[.pointer (some ⟨b15, 0, none⟩), .pointer (some ⟨b6, 0, none⟩), .pointer (some ⟨b1, 0, none⟩)]) ht10_L0) rfl ?_
            exact ow_nil ⟨rfl, rfl, Iq, hleq, frL_set rfl rfl, hs⟩
          · rintro L f w ⟨hL10, _⟩ hL ⟨Iq, hleq, rfl, hs⟩
            replace hx0_2 := hx0_2.mono hleq
            replace hx1_2 := hx1_2.mono hleq
            replace hx3_0 := hx3_0.mono hleq
            replace hx3_1 := hx3_1.mono hleq
            replace hI5 := hI5.mono hleq
            replace hI10 := hI10.mono hleq
            replace hI19 := hI19.mono hleq
            refine ow_go (yl_of rfl (frL_get rfl hL10) (decide_eq_false hcg18_7_10)) ?_
            refine ow_load (k := 0) (vs := [.int .i64 r140.1, .int .i64 r140.2.1, .int .i64 r140.2.2.1, .int .i64 r140.2.2.2.1, .int .i64 r140.2.2.2.2.1, .int .i64 r140.2.2.2.2.2]) (v := .agg #[.int .i64 r140.1, .int .i64 r140.2.1, .int .i64 r140.2.2.1, .int .i64 r140.2.2.2.1, .int .i64 r140.2.2.2.2.1, .int .i64 r140.2.2.2.2.2]) hs rfl rfl ty49 rfl rfl rfl ?_
            exact ow_nil ⟨rfl, rfl, Iq, hleq, frL_set rfl rfl, hs⟩
          · rintro L f w ⟨hL11, hL12, hL10, _, _⟩ hL ⟨Iq, hleq, rfl, hs⟩
            replace hx0_2 := hx0_2.mono hleq
            replace hx1_2 := hx1_2.mono hleq
            replace hx3_0 := hx3_0.mono hleq
            replace hx3_1 := hx3_1.mono hleq
            replace hI5 := hI5.mono hleq
            replace hI10 := hI10.mono hleq
            replace hI19 := hI19.mono hleq
            replace hs := hs.eqv (k := 2) rfl ((rL_f hL (rL_n)))
            refine ow_go (yl_of rfl (frL_get rfl hL10) (decide_eq_false hcg18_7_10)) ?_
            replace hs := hs.front (k := 2) rfl
            refine ow_call (fi := []) (vs := [.agg #[.int .i64 r140.1, .int .i64 r140.2.1, .int .i64 r140.2.2.1, .int .i64 r140.2.2.2.1, .int .i64 r140.2.2.2.2.1, .int .i64 r140.2.2.2.2.2]]) (ca := [.pointer (some ⟨b15, 0, none⟩), .pointer (some ⟨b6, 0, none⟩), .pointer (some ⟨b1, 0, none⟩)]) (frL_get rfl hL11) ⟨(frL_get rfl hL12), trivial⟩ en26 (f26_ok _ _ _ _ _ _ _ _ _ _ _ _ _ hr151 hs hI19 hx1_2 hI10 hx0_2 hI5) ?_
            clear hs; rintro _ w ⟨J152, hle153, hs, rfl⟩
            replace hx0_2 := hx0_2.mono hle153
            replace hx1_2 := hx1_2.mono hle153
            replace hx3_0 := hx3_0.mono hle153
            replace hx3_1 := hx3_1.mono hle153
            replace hI5 := hI5.mono hle153
            replace hI10 := hI10.mono hle153
            replace hI19 := hI19.mono hle153
            replace hs := hs.front (k := 3) rfl
            replace hs := hs.front (k := 1) rfl
            replace hs := hs.front (k := 3) rfl
            replace hs := hs.front (k := 3) rfl
            exact ow_nil ⟨rfl, rfl, J152, (hleq.trans hle153), frL_set rfl rfl, hs⟩
          · rintro L f w ⟨hL10, _⟩ hL ⟨Iq, hleq, rfl, hs⟩
            replace hx0_2 := hx0_2.mono hleq
            replace hx1_2 := hx1_2.mono hleq
            replace hx3_0 := hx3_0.mono hleq
            replace hx3_1 := hx3_1.mono hleq
            replace hI5 := hI5.mono hleq
            replace hI10 := hI10.mono hleq
            replace hI19 := hI19.mono hleq
            refine ow_go (yl_of rfl (frL_get rfl hL10) (decide_eq_false hcg18_7_10)) ?_
            refine ow_field (b := b138) (o := 0) fl40_1 rfl ?_
            exact ow_nil ⟨rfl, rfl, Iq, hleq, frL_set rfl rfl, hs⟩
          · rintro L f w ⟨hL14, hL10, _⟩ hL ⟨Iq, hleq, rfl, hs⟩
            replace hx0_2 := hx0_2.mono hleq
            replace hx1_2 := hx1_2.mono hleq
            replace hx3_0 := hx3_0.mono hleq
            replace hx3_1 := hx3_1.mono hleq
            replace hI5 := hI5.mono hleq
            replace hI10 := hI10.mono hleq
            replace hI19 := hI19.mono hleq
            refine ow_go (yl_of rfl (frL_get rfl hL10) (decide_eq_false hcg18_7_10)) ?_
            refine ow_load (k := 1) (vs := [.int .i64 ((at' x3_0 v0_t_23).2.2.2.2)]) (v := .int .i64 ((at' x3_0 v0_t_23).2.2.2.2)) hs rfl (frL_get rfl hL14) ty3 rfl rfl rfl ?_
            exact ow_nil ⟨rfl, rfl, Iq, hleq, frL_set rfl rfl, hs⟩
          · rintro L f w ⟨hL13, hL15, hL10, _⟩ hL ⟨Iq, hleq, rfl, hs⟩
            replace hx0_2 := hx0_2.mono hleq
            replace hx1_2 := hx1_2.mono hleq
            replace hx3_0 := hx3_0.mono hleq
            replace hx3_1 := hx3_1.mono hleq
            replace hI5 := hI5.mono hleq
            replace hI10 := hI10.mono hleq
            replace hI19 := hI19.mono hleq
            refine ow_go (yl_of rfl (frL_get rfl hL10) (decide_eq_false hcg18_7_10)) ?_
            refine ow_v (x_neqD (k := .i64) (a := r150.1) (b := ((at' x3_0 v0_t_23).2.2.2.2)) (frL_get rfl hL13) (frL_get rfl hL15)) rfl ?_
            exact ow_nil ⟨rfl, rfl, Iq, hleq, frL_set rfl rfl, hs⟩
          · rintro L f w ⟨hL10, hL16, _⟩ hL ⟨Iq, hleq, rfl, hs⟩
            replace hx0_2 := hx0_2.mono hleq
            replace hx1_2 := hx1_2.mono hleq
            replace hx3_0 := hx3_0.mono hleq
            replace hx3_1 := hx3_1.mono hleq
            replace hI5 := hI5.mono hleq
            replace hI10 := hI10.mono hleq
            replace hI19 := hI19.mono hleq
            refine ow_v (x_pick_fE (v := .bool (decide (¬ (r150.1 = ((at' x3_0 v0_t_23).2.2.2.2))))) (frL_get rfl hL10) (decide_eq_false hcg18_7_10) (frL_get rfl hL16)) rfl ?_
            exact ow_nil ⟨rfl, rfl, Iq, hleq, frL_set rfl rfl, hs⟩
          rintro L f w hall ⟨I156, hle155, rfl, hs⟩
          rw [frL_tt _ rfl hall]
          replace hs := hs.eqv (k := 2) rfl (rL_t (hall 13 (Nat.le_of_ble_eq_true rfl)))
          replace hx0_2 := hx0_2.mono hle155
          replace hx1_2 := hx1_2.mono hle155
          replace hx3_0 := hx3_0.mono hle155
          replace hx3_1 := hx3_1.mono hle155
          replace hI5 := hI5.mono hle155
          replace hI10 := hI10.mono hle155
          replace hI19 := hI19.mono hle155
          refine seqK_n ?_
          by_cases hc157 : ¬ (r150.1 = ((at' x3_0 v0_t_23).2.2.2.2))
          · rw [if_pos hc157] at hm
            refine cw_if_t rfl (decide_eq_true hc157) ?_
            refine cw_seq ?_
            refine cw_region ?_
            refine ow_v (x_assign (v := .bool false) rfl) rfl ?_
            refine ow_nil ?_
            refine seqK_n ?_
            refine cw_ret ?_
            refine blockK_r ?_
            refine seqK_r ?_
            refine loopK_r ?_
            refine blockK_r ?_
            refine joinK_r ?_
            refine ret_ok (rs := [.tmp 8]) (vs := [.bool false]) (.inr rfl) rfl ⟨rfl, trivial⟩ ?_
            replace hm := lret hm hq88
            obtain rfl := Option.some.inj hm
            replace hs := hs.erase 0
            replace hs := hs.erase 0
            replace hs := hs.erase 0
            replace hs := hs.erase 0
            exact ⟨I156, (((((hle4.trans hle9).trans hle18).trans hle135).trans hle143).trans hle155), hs, rfl⟩
          · rw [if_neg hc157] at hm
            refine cw_if_f rfl (decide_eq_false hc157) ?_
            refine cw_skip ?_
            refine blockK_n ?_
            refine seqK_n ?_
            refine cw_region ?_
            refine ow_v (x_add (k := .i64) (a := v0_t_23) (b := 1) ht23_L0 rfl) rfl ?_
            refine ow_v (x_move (v := .int .i64 (w64 (v0_t_23 + 1))) rfl) rfl ?_
            refine ow_nil ?_
            replace hs := hs.erase 0
            replace hs := hs.erase 0
            exact loopK_n ⟨k, Nat.lt_succ_self k, w64 (v0_t_23 + 1), r150.2, I156, rfl, ((hle135.trans hle143).trans hle155), hm, hs, ht2_L0, ht4_L0, ht7_L0, ht8_L0, ht9_L0, ht10_L0, ht21_L0, ht22_L0, rfl⟩
    · rw [if_neg hc136] at hm
      refine cw_if_f rfl (decide_eq_false hc136) ?_
      refine cw_exit ?_
      refine seqK_x ?_
      refine loopK_x ?_
      refine blockK_hit ?_
      obtain rfl := Option.some.inj hm
      refine joinK_n ⟨v0_o_r14, I134, rfl, hle135, rfl, hs, ht2_L0, ht4_L0, ht7_L0, ht8_L0, ht9_L0, ht10_L0⟩
  · clear hm hs
    rintro f ds w ⟨s87, I89, rfl, hle158, rfl, hs, ht2_o86, ht4_o86, ht7_o86, ht8_o86, ht9_o86, ht10_o86⟩
    replace hm := lexit rfl hq88
    replace hx0_2 := hx0_2.mono hle158
    replace hx1_2 := hx1_2.mono hle158
    replace hx3_0 := hx3_0.mono hle158
    replace hx3_1 := hx3_1.mono hle158
    replace hI5 := hI5.mono hle158
    replace hI10 := hI10.mono hle158
    replace hI19 := hI19.mono hle158
    obtain ⟨o204, hm2, hq206⟩ := lb_some hm
    replace hm := hm2; clear hm2
    refine cw_join (fun f ds w => ∃ (s205 : List (K4 × Int)) (I207 : Im), ds = [] ∧ Im.le I89 I207 ∧ o204 = Sum.inl s205 ∧ Sat I207 (mp m13 kv38 vi64 s205 :: blk b11 32 [.slice ax3_0 x3_0.length cx3_0, .slice ax3_1 x3_1.length cx3_1] :: F) w ∧ f 4 = .pointer (some ⟨b1, 0, none⟩) ∧ f 8 = .bool false ∧ f 9 = .pointer (some ⟨b15, 0, none⟩)) ?_ ?_
    · skip
      refine cw_seq ?_
      refine cw_region ?_
      refine ow_field (b := b11) (o := 0) fl32_1 ht7_o86 ?_
      refine ow_load (k := 1) (vs := [.slice ax3_1 x3_1.length cx3_1]) (v := .slice ax3_1 x3_1.length cx3_1) hs rfl rfl ty30 rfl rfl rfl ?_
      refine ow_v (x_len sl30 rfl) rfl ?_
      refine ow_v (x_move (v := .int .i64 0) rfl) rfl ?_
      refine ow_nil ?_
      refine seqK_n ?_
      refine cw_block ?_
      refine cw_loop (S := fun k f ds w => ∃ (v1_t_52 : Int) (v1_o_r14 : List (K4 × Int)), ∃ (I238 : Im), ds = [] ∧ Im.le I89 I238 ∧ f18_l1 x0_0 x0_1 x0_2 x1_0 x1_1 x1_2 x2 x3_1 k v1_t_52 v1_o_r14 = some o204 ∧ Sat I238 (mp m13 kv38 vi64 v1_o_r14 :: blk b11 32 [.slice ax3_0 x3_0.length cx3_0, .slice ax3_1 x3_1.length cx3_1] :: F) w ∧ f 2 = .int .i64 x2 ∧ f 4 = .pointer (some ⟨b1, 0, none⟩) ∧ f 8 = .bool false ∧ f 9 = .pointer (some ⟨b15, 0, none⟩) ∧ f 10 = .func (.func 26) #[] #[.pointer (some ⟨b15, 0, none⟩), .pointer (some ⟨b6, 0, none⟩), .pointer (some ⟨b1, 0, none⟩)] ∧ f 50 = .slice ax3_1 x3_1.length cx3_1 ∧ f 51 = .int .i64 (x3_1.length : Int) ∧ f 52 = .int .i64 v1_t_52) ?_ (k := FUEL) ⟨0, s87, I89, rfl, Im.le.refl _, hm, hs, ht2_o86, ht4_o86, ht8_o86, ht9_o86, ht10_o86, rfl, rfl, rfl⟩
      clear hm hs
      rintro k f ds w ⟨v1_t_52, v1_o_r14, I238, rfl, hle239, hm, hs, ht2_L1, ht4_L1, ht8_L1, ht9_L1, ht10_L1, ht50_L1, ht51_L1, ht52_L1⟩
      replace hx0_2 := hx0_2.mono hle239
      replace hx1_2 := hx1_2.mono hle239
      replace hx3_0 := hx3_0.mono hle239
      replace hx3_1 := hx3_1.mono hle239
      replace hI5 := hI5.mono hle239
      replace hI10 := hI10.mono hle239
      replace hI19 := hI19.mono hle239
      rcases k with _ | k
      · unfold f18_l1 at hm; cases hm
      unfold f18_l1 at hm
      refine cw_seq ?_
      refine cw_region ?_
      refine ow_v (x_lss (k := .i64) (a := v1_t_52) (b := (x3_1.length : Int)) ht52_L1 ht51_L1) rfl ?_
      refine ow_nil ?_
      refine seqK_n ?_
      refine cw_seq ?_
      by_cases hc240 : v1_t_52 < (x3_1.length : Int)
      · rw [if_pos hc240] at hm
        refine cw_if_t rfl (decide_eq_true hc240) ?_
        refine cw_skip ?_
        refine seqK_n ?_
        refine cw_seq ?_
        refine cw_block ?_
        refine cw_seq ?_
        refine cw_region ?_
        have hg241 := (ite_some hm).1
        replace hm := (ite_some hm).2
        refine ow_index (i := v1_t_52) sl30 ty49 ht50_L1 ht52_L1 hg241.1 hg241.2 (Rs.some hx3_1 (by have := hg241; omega)) ?_
        refine ow_loadR (p := v1_t_52.toNat * 6) (vs := [.int .i64 ((at' x3_1 v1_t_52).1), .int .i64 ((at' x3_1 v1_t_52).2.1), .int .i64 ((at' x3_1 v1_t_52).2.2.1), .int .i64 ((at' x3_1 v1_t_52).2.2.2.1), .int .i64 ((at' x3_1 v1_t_52).2.2.2.2.1), .int .i64 ((at' x3_1 v1_t_52).2.2.2.2.2)]) (v := .agg #[.int .i64 ((at' x3_1 v1_t_52).1), .int .i64 ((at' x3_1 v1_t_52).2.1), .int .i64 ((at' x3_1 v1_t_52).2.2.1), .int .i64 ((at' x3_1 v1_t_52).2.2.2.1), .int .i64 ((at' x3_1 v1_t_52).2.2.2.2.1), .int .i64 ((at' x3_1 v1_t_52).2.2.2.2.2)]) hs hx3_1 rfl ty49 (flat_at (enc := enc49) (sz := 6) (fun _ => rfl) x3_1 v1_t_52 hg241.1 hg241.2 0 6 (by decide)) rfl rfl ?_
        refine ow_alloc hs ty49 rfl ?_
        clear hs; intro b242 w hs
        refine ow_store (k := 0) (vs := [.int .i64 ((at' x3_1 v1_t_52).1), .int .i64 ((at' x3_1 v1_t_52).2.1), .int .i64 ((at' x3_1 v1_t_52).2.2.1), .int .i64 ((at' x3_1 v1_t_52).2.2.2.1), .int .i64 ((at' x3_1 v1_t_52).2.2.2.2.1), .int .i64 ((at' x3_1 v1_t_52).2.2.2.2.2)]) (cs' := [.int .i64 ((at' x3_1 v1_t_52).1), .int .i64 ((at' x3_1 v1_t_52).2.1), .int .i64 ((at' x3_1 v1_t_52).2.2.1), .int .i64 ((at' x3_1 v1_t_52).2.2.2.1), .int .i64 ((at' x3_1 v1_t_52).2.2.2.2.1), .int .i64 ((at' x3_1 v1_t_52).2.2.2.2.2)]) hs rfl rfl rfl ty49 rfl rfl (Nat.le_of_ble_eq_true rfl) rfl rfl ?_
        clear hs; intro w hs
        refine ow_nil ?_
        refine seqK_n ?_
        refine cw_seq ?_
        refine cw_region ?_
        refine ow_loadI (vs := [.int .i64 x0_0, .int .i64 x0_1, .slice ax0_2 x0_2.length cx0_2]) (v := .agg #[.int .i64 x0_0, .int .i64 x0_1, .slice ax0_2 x0_2.length cx0_2]) hs hI5 ht4_L1 ty26 rfl rfl rfl ?_
        refine ow_load (k := 0) (vs := [.int .i64 ((at' x3_1 v1_t_52).1), .int .i64 ((at' x3_1 v1_t_52).2.1), .int .i64 ((at' x3_1 v1_t_52).2.2.1), .int .i64 ((at' x3_1 v1_t_52).2.2.2.1), .int .i64 ((at' x3_1 v1_t_52).2.2.2.2.1), .int .i64 ((at' x3_1 v1_t_52).2.2.2.2.2)]) (v := .agg #[.int .i64 ((at' x3_1 v1_t_52).1), .int .i64 ((at' x3_1 v1_t_52).2.1), .int .i64 ((at' x3_1 v1_t_52).2.2.1), .int .i64 ((at' x3_1 v1_t_52).2.2.2.1), .int .i64 ((at' x3_1 v1_t_52).2.2.2.2.1), .int .i64 ((at' x3_1 v1_t_52).2.2.2.2.2)]) hs rfl rfl ty49 rfl rfl rfl ?_
        obtain ⟨r244, hr245, hm2⟩ := bind_some hm
        replace hm := hm2; clear hm2
        refine ow_call (fi := []) (vs := [.agg #[.int .i64 x0_0, .int .i64 x0_1, .slice ax0_2 x0_2.length cx0_2], .agg #[.int .i64 ((at' x3_1 v1_t_52).1), .int .i64 ((at' x3_1 v1_t_52).2.1), .int .i64 ((at' x3_1 v1_t_52).2.2.1), .int .i64 ((at' x3_1 v1_t_52).2.2.2.1), .int .i64 ((at' x3_1 v1_t_52).2.2.2.2.1), .int .i64 ((at' x3_1 v1_t_52).2.2.2.2.2)]]) (ca := []) rfl ⟨rfl, rfl, trivial⟩ en28 (f28_ok _ _ _ _ _ _ _ _ _ hr245 hs hx0_2) ?_
        clear hs; rintro _ w ⟨J246, hle247, hs, rfl⟩
        replace hx0_2 := hx0_2.mono hle247
        replace hx1_2 := hx1_2.mono hle247
        replace hx3_0 := hx3_0.mono hle247
        replace hx3_1 := hx3_1.mono hle247
        replace hI5 := hI5.mono hle247
        replace hI10 := hI10.mono hle247
        replace hI19 := hI19.mono hle247
        refine ow_v (x_not (b := r244) rfl) rfl ?_
        refine ow_v (x_move (v := .bool (!r244)) rfl) rfl ?_
        by_cases hc248 : (!r244) = true
        · rw [if_pos hc248] at hm
          refine ow_no (b := true) (yl_of rfl rfl hc248) rfl ?_
          refine ow_no (b := true) (yl_of rfl rfl hc248) rfl ?_
          refine ow_no (b := true) (yl_of rfl rfl hc248) rfl ?_
          refine ow_no (b := true) (yl_of rfl rfl hc248) rfl ?_
          refine ow_no (b := true) (yl_of rfl rfl hc248) rfl ?_
          refine ow_v (x_pick_t (v := .bool true) ((rfl : ev _ _ _ = _).trans (congrArg Value.bool hc248)) rfl) rfl ?_
          refine ow_nil ?_
          refine seqK_n ?_
          refine cw_cond_t rfl ?_
          refine cw_seq ?_
          refine cw_region ?_
          refine ow_v (x_assign (v := .bool false) rfl) rfl ?_
          refine ow_nil ?_
          refine seqK_n ?_
          refine cw_ret ?_
          refine blockK_r ?_
          refine seqK_r ?_
          refine loopK_r ?_
          refine blockK_r ?_
          refine joinK_r ?_
          refine ret_ok (rs := [.tmp 8]) (vs := [.bool false]) (.inr rfl) rfl ⟨rfl, trivial⟩ ?_
          replace hm := lret hm hq206
          obtain rfl := Option.some.inj hm
          replace hs := hs.erase 0
          replace hs := hs.erase 0
          replace hs := hs.erase 0
          exact ⟨J246, (((((hle4.trans hle9).trans hle18).trans hle158).trans hle239).trans hle247), hs, rfl⟩
        · rw [if_neg hc248] at hm
          refine ow_go (yl_of rfl rfl (Bool.eq_false_iff.2 hc248)) ?_
          refine ow_v (x_move (v := .func (.func 26) #[] #[.pointer (some ⟨b15, 0, none⟩), .pointer (some ⟨b6, 0, none⟩), .pointer (some ⟨b1, 0, none⟩)]) ht10_L1) rfl ?_
          refine ow_go (yl_of rfl rfl (Bool.eq_false_iff.2 hc248)) ?_
          refine ow_load (k := 0) (vs := [.int .i64 ((at' x3_1 v1_t_52).1), .int .i64 ((at' x3_1 v1_t_52).2.1), .int .i64 ((at' x3_1 v1_t_52).2.2.1), .int .i64 ((at' x3_1 v1_t_52).2.2.2.1), .int .i64 ((at' x3_1 v1_t_52).2.2.2.2.1), .int .i64 ((at' x3_1 v1_t_52).2.2.2.2.2)]) (v := .agg #[.int .i64 ((at' x3_1 v1_t_52).1), .int .i64 ((at' x3_1 v1_t_52).2.1), .int .i64 ((at' x3_1 v1_t_52).2.2.1), .int .i64 ((at' x3_1 v1_t_52).2.2.2.1), .int .i64 ((at' x3_1 v1_t_52).2.2.2.2.1), .int .i64 ((at' x3_1 v1_t_52).2.2.2.2.2)]) hs rfl rfl ty49 rfl rfl rfl ?_
          refine ow_go (yl_of rfl rfl (Bool.eq_false_iff.2 hc248)) ?_
          replace hs := hs.front (k := 1) rfl
          obtain ⟨r249, hr250, hm2⟩ := bind_some hm
          replace hm := hm2; clear hm2
          refine ow_call (fi := []) (vs := [.agg #[.int .i64 ((at' x3_1 v1_t_52).1), .int .i64 ((at' x3_1 v1_t_52).2.1), .int .i64 ((at' x3_1 v1_t_52).2.2.1), .int .i64 ((at' x3_1 v1_t_52).2.2.2.1), .int .i64 ((at' x3_1 v1_t_52).2.2.2.2.1), .int .i64 ((at' x3_1 v1_t_52).2.2.2.2.2)]]) (ca := [.pointer (some ⟨b15, 0, none⟩), .pointer (some ⟨b6, 0, none⟩), .pointer (some ⟨b1, 0, none⟩)]) rfl ⟨rfl, trivial⟩ en26 (f26_ok _ _ _ _ _ _ _ _ _ _ _ _ _ hr250 hs hI19 hx1_2 hI10 hx0_2 hI5) ?_
          clear hs; rintro _ w ⟨J251, hle252, hs, rfl⟩
          replace hx0_2 := hx0_2.mono hle252
          replace hx1_2 := hx1_2.mono hle252
          replace hx3_0 := hx3_0.mono hle252
          replace hx3_1 := hx3_1.mono hle252
          replace hI5 := hI5.mono hle252
          replace hI10 := hI10.mono hle252
          replace hI19 := hI19.mono hle252
          refine ow_go (yl_of rfl rfl (Bool.eq_false_iff.2 hc248)) ?_
          refine ow_v (x_move (v := .int .i64 x2) ht2_L1) rfl ?_
          refine ow_go (yl_of rfl rfl (Bool.eq_false_iff.2 hc248)) ?_
          refine ow_v (x_leq (k := .i64) (a := r249.1) (b := x2) rfl rfl) rfl ?_
          refine ow_v (x_pick_f (v := .bool (decide (r249.1 ≤ x2))) ((rfl : ev _ _ _ = _).trans (congrArg Value.bool (Bool.eq_false_iff.2 hc248))) rfl) rfl ?_
          refine ow_nil ?_
          refine seqK_n ?_
          by_cases hc254 : r249.1 ≤ x2
          · rw [if_pos hc254] at hm
            refine cw_if_t rfl (decide_eq_true hc254) ?_
            refine cw_seq ?_
            refine cw_region ?_
            refine ow_v (x_assign (v := .bool false) rfl) rfl ?_
            refine ow_nil ?_
            refine seqK_n ?_
            refine cw_ret ?_
            refine blockK_r ?_
            refine seqK_r ?_
            refine loopK_r ?_
            refine blockK_r ?_
            refine joinK_r ?_
            refine ret_ok (rs := [.tmp 8]) (vs := [.bool false]) (.inr rfl) rfl ⟨rfl, trivial⟩ ?_
            replace hm := lret hm hq206
            obtain rfl := Option.some.inj hm
            replace hs := hs.erase 0
            replace hs := hs.erase 0
            replace hs := hs.erase 0
            exact ⟨J251, ((((((hle4.trans hle9).trans hle18).trans hle158).trans hle239).trans hle247).trans hle252), hs, rfl⟩
          · rw [if_neg hc254] at hm
            refine cw_if_f rfl (decide_eq_false hc254) ?_
            refine cw_skip ?_
            refine blockK_n ?_
            refine seqK_n ?_
            refine cw_region ?_
            refine ow_v (x_add (k := .i64) (a := v1_t_52) (b := 1) ht52_L1 rfl) rfl ?_
            refine ow_v (x_move (v := .int .i64 (w64 (v1_t_52 + 1))) rfl) rfl ?_
            refine ow_nil ?_
            replace hs := hs.erase 1
            exact loopK_n ⟨k, Nat.lt_succ_self k, w64 (v1_t_52 + 1), r249.2, J251, rfl, ((hle239.trans hle247).trans hle252), hm, hs, ht2_L1, ht4_L1, ht8_L1, ht9_L1, ht10_L1, ht50_L1, ht51_L1, rfl⟩
      · rw [if_neg hc240] at hm
        refine cw_if_f rfl (decide_eq_false hc240) ?_
        refine cw_exit ?_
        refine seqK_x ?_
        refine loopK_x ?_
        refine blockK_hit ?_
        obtain rfl := Option.some.inj hm
        refine joinK_n ⟨v1_o_r14, I238, rfl, hle239, rfl, hs, ht4_L1, ht8_L1, ht9_L1⟩
    · clear hm hs
      rintro f ds w ⟨s205, I207, rfl, hle255, rfl, hs, ht4_o204, ht8_o204, ht9_o204⟩
      replace hm := lexit rfl hq206
      replace hx0_2 := hx0_2.mono hle255
      replace hx1_2 := hx1_2.mono hle255
      replace hx3_0 := hx3_0.mono hle255
      replace hx3_1 := hx3_1.mono hle255
      replace hI5 := hI5.mono hle255
      replace hI10 := hI10.mono hle255
      replace hI19 := hI19.mono hle255
      refine cw_seq ?_
      refine cw_seq ?_
      refine cw_region ?_
      refine ow_loadI (vs := [.map (some m13)]) (v := .map (some m13)) hs hI19 ht9_o204 ty70 rfl rfl rfl ?_
      refine ow_rangeMap (q := 0) mund70 hs rfl rfl ?_
      clear hs; intro it256 w hs
      refine ow_nil ?_
      refine seqK_n ?_
      refine cw_via (fun f ds w => (∀ x ∈ s205, x.2 = 1) ∧ ds = [] ∧ Sat I207 (mp m13 kv38 vi64 s205 :: blk b11 32 [.slice ax3_0 x3_0.length cx3_0, .slice ax3_1 x3_1.length cx3_1] :: F) w ∧ f 4 = .pointer (some ⟨b1, 0, none⟩) ∧ f 8 = .bool false ∧ f 9 = .pointer (some ⟨b15, 0, none⟩) ∧ f 69 = .pointer (some ⟨it256, 0, none⟩)) ?_ ?_
      · refine cw_block ?_
        refine cw_loop (S := fun k f ds w => ∃ seen : List Nat, seen.Nodup ∧ (∀ j ∈ seen, j < s205.length) ∧ (∀ j ∈ seen, ∀ x, s205[j]? = some x → x.2 = 1) ∧ k = s205.length - seen.length ∧ ds = [] ∧ Sat I207 (mit it256 m13 s205.length seen :: mp m13 kv38 vi64 s205 :: blk b11 32 [.slice ax3_0 x3_0.length cx3_0, .slice ax3_1 x3_1.length cx3_1] :: F) w ∧ f 4 = .pointer (some ⟨b1, 0, none⟩) ∧ f 8 = .bool false ∧ f 9 = .pointer (some ⟨b15, 0, none⟩) ∧ f 69 = .pointer (some ⟨it256, 0, none⟩)) ?_ (k := s205.length) ⟨[], List.nodup_nil, (fun j h => by cases h), (fun j h => by cases h), rfl, rfl, hs, ht4_o204, ht8_o204, ht9_o204, rfl⟩
        clear hs
        rintro k f ds w ⟨seen, hnd, hlt, hone, rfl, rfl, hs, hm4_, hm8_, hm9_, hm69_⟩
        refine cw_seq ?_
        refine cw_region ?_
        refine ow_next (TT := 0) (q := 1) (q2 := 0) hs rfl rfl hm69_ ?_ ?_
        · intro hdone
          refine ow_v (x_extract (v := .bool false) rfl rfl) rfl ?_
          refine ow_nil ?_
          refine seqK_n ?_
          refine cw_seq ?_
          refine cw_cond_f rfl ?_
          refine cw_exit ?_
          refine seqK_x ?_
          refine loopK_x ?_
          refine blockK_hit ?_
          replace hs := hs.erase 0
          exact joinK_n ⟨allOne (p := fun v => v = 1) hdone hone, rfl, hs, hm4_, hm8_, hm9_, hm69_⟩
        · intro jx kx vx w1 hj hnew hs1; clear hs; have hs := hs1; clear hs1
          refine ow_v (x_extract (v := .bool true) rfl rfl) rfl ?_
          refine ow_nil ?_
          refine seqK_n ?_
          refine cw_seq ?_
          refine cw_cond_t rfl ?_
          refine cw_skip ?_
          refine seqK_n ?_
          refine cw_block ?_
          refine cw_seq ?_
          refine cw_region ?_
          refine ow_entry (q := 1) (q2 := 0) hs rfl rfl hm69_ hj ?_
          refine ow_v (x_extract (v := .int .i64 vx) rfl rfl) rfl ?_
          refine ow_v (x_assign (v := .int .i64 vx) rfl) rfl ?_
          refine ow_nil ?_
          refine seqK_n ?_
          refine cw_seq ?_
          refine cw_region ?_
          refine ow_v (x_move (v := .int .i64 vx) rfl) rfl ?_
          refine ow_v (x_neqD (k := .i64) (a := vx) (b := 1) rfl rfl) rfl ?_
          refine ow_nil ?_
          refine seqK_n ?_
          by_cases hcx : vx = 1
          · refine cw_if_f rfl (decide_eq_false (fun h => h hcx)) ?_
            refine cw_skip ?_
            refine blockK_n ?_
            exact loopK_n ⟨_, onceMore hnd hlt hnew hj, seen ++ [jx], nodup_more hnd hnew, lt_more hlt hj, one_more (p := fun v => v = 1) hone hj hcx, rfl, rfl, hs, hm4_, hm8_, hm9_, hm69_⟩
          · refine cw_if_t rfl (decide_eq_true hcx) ?_
            rw [if_neg (fun hall => hcx (hall _ (List.mem_of_getElem? hj)))] at hm
            refine cw_seq ?_
            refine cw_region ?_
            refine ow_v (x_assign (v := .bool false) rfl) rfl ?_
            refine ow_nil ?_
            refine seqK_n ?_
            refine cw_ret ?_
            refine blockK_r ?_
            refine loopK_r ?_
            refine blockK_r ?_
            refine joinK_r ?_
            refine seqK_r ?_
            refine ret_ok (rs := [.tmp 8]) (vs := [.bool false]) (.inr rfl) rfl ⟨rfl, trivial⟩ ?_
            obtain rfl := Option.some.inj hm
            replace hs := hs.erase 0
            replace hs := hs.erase 0
            replace hs := hs.erase 0
            exact ⟨I207, ((((hle4.trans hle9).trans hle18).trans hle158).trans hle255), hs, rfl⟩
      · clear hs
        rintro f ds w ⟨hall, rfl, hs, hm4_, hm8_, hm9_, hm69_⟩
        rw [if_pos hall] at hm
        refine seqK_n ?_
        refine cw_seq ?_
        refine cw_region ?_
        refine ow_loadI (vs := [.map (some m13)]) (v := .map (some m13)) hs hI19 hm9_ ty70 rfl rfl rfl ?_
        refine ow_len_map (q := 0) mund70 hs rfl rfl ?_
        refine ow_field (b := b1) (o := 0) fl26_2 hm4_ ?_
        refine ow_loadI (vs := [.slice ax0_2 x0_2.length cx0_2]) (v := .slice ax0_2 x0_2.length cx0_2) hs hI5 rfl ty24 rfl rfl rfl ?_
        refine ow_v (x_len sl24 rfl) rfl ?_
        refine ow_v (x_mul (k := .i64) (a := (x0_2.length : Int)) (b := 12) rfl rfl) rfl ?_
        refine ow_v (x_mul (k := .i64) (a := (w64 ((x0_2.length : Int) * 12))) (b := 4) rfl rfl) rfl ?_
        refine ow_v (x_eql (k := .i64) (a := (s205.length : Int)) (b := (w64 ((w64 ((x0_2.length : Int) * 12)) * 4))) rfl rfl) rfl ?_
        refine ow_v (x_assign (v := .bool (decide ((s205.length : Int) = (w64 ((w64 ((x0_2.length : Int) * 12)) * 4))))) rfl) rfl ?_
        refine ow_nil ?_
        refine seqK_n ?_
        refine cw_ret ?_
        refine ret_ok (rs := [.tmp 8]) (vs := [.bool (decide ((s205.length : Int) = (w64 ((w64 ((x0_2.length : Int) * 12)) * 4))))]) (.inr rfl) rfl ⟨rfl, trivial⟩ ?_
        obtain rfl := Option.some.inj hm
        replace hs := hs.erase 0
        replace hs := hs.erase 0
        exact ⟨I207, ((((hle4.trans hle9).trans hle18).trans hle158).trans hle255), hs, rfl⟩
end Go.HL.Try
