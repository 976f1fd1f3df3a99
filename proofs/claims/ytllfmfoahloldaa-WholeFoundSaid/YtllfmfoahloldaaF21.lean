/- The walk of the iterator over the boxes. -/
import Derived.Test.YtllfmfoahloldaaHL10
import Derived.Test.YtllfmfoahloldaaProg
set_option linter.unusedVariables false
set_option linter.unusedSimpArgs false
set_option maxRecDepth 100000
set_option maxHeartbeats 400000
namespace Go.HL.Try
open Go.HL
attribute [local irreducible] OW CW CV
noncomputable abbrev P : Program := Go.Proofs.Try.prog
theorem ty3 : TyC P 3 false [.int .i64 0] := ⟨by kernel_rfl, by kernel_rfl, (fun _ => rfl), by kernel_rfl⟩
theorem ty49 : TyC P 49 true [.int .i64 0, .int .i64 0, .int .i64 0, .int .i64 0, .int .i64 0, .int .i64 0] := ⟨by kernel_rfl, by kernel_rfl, (fun h => by cases h), by kernel_rfl⟩
theorem fl26_0 : FldT P 26 0 0 := ⟨by kernel_rfl⟩
theorem fl26_1 : FldT P 26 1 1 := ⟨by kernel_rfl⟩
theorem st49 : StrT P 49 [(0, 1), (1, 1), (2, 1), (3, 1), (4, 1), (5, 1)] := ⟨by kernel_rfl⟩
abbrev Box6 := Int × Int × Int × Int × Int × Int
def encB (x : Box6) : List Value := [.int .i64 x.1, .int .i64 x.2.1, .int .i64 x.2.2.1, .int .i64 x.2.2.2.1, .int .i64 x.2.2.2.2.1, .int .i64 x.2.2.2.2.2]
def theBox (W H : Int) (q : Nat) : Box6 := (0, 0, w64 (W - 1), w64 (H - 1), ((q / 4 : Nat) : Int), ((q % 4 : Nat) : Int) + 1)
theorem w64_small {x : Int} (h0 : 0 ≤ x) (h1 : x < 1000) : w64 x = x := w64_id (by omega) (by omega)
theorem f21_it {l b : Nat} (W H : Int) {sv : Value} (Inv : Nat → World → Prop) (hS : ∀ j w, Inv j w → ∃ J L, Sat J L w ∧ Ib J b 26 [.int .i64 W, .int .i64 H, sv])
    (hy : ∀ j, j < 48 → ∀ w, Inv j w → YC P l [.agg (encB (theBox W H j)).toArray] (fun v w' => v = .bool true ∧ Inv (j + 1) w') w) {w : World} (h0 : Inv 0 w) :
    CV P 21 [.func (.yield l) #[] #[], .pointer (some ⟨b, 0, none⟩)] w (fun _ w' => Inv 48 w') := by
  refine cv_of (n := 26) Go.Proofs.Try.func21 rfl rfl (Nat.le_of_ble_eq_true rfl) ?_
  refine cw_seq ?_
  refine cw_region ?_
  refine ow_v (x_move (v := .int .i64 0) rfl) rfl ?_
  refine ow_nil ?_
  refine seqK_n ?_
  refine cw_block ?_
  refine cw_loop (S := fun k f ds w => ∃ i : Nat, i ≤ 12 ∧ k = 12 - i ∧ ds = [] ∧ Inv (4 * i) w ∧ f 0 = .func (.yield l) #[] #[] ∧ f 1 = .pointer (some ⟨b, 0, none⟩) ∧ f 5 = .int .i64 (i : Int)) ?_ (k := 12) ⟨0, by omega, rfl, rfl, h0, rfl, rfl, rfl⟩
  clear h0
  rintro k f ds w ⟨i, hi, rfl, rfl, hv, h0, h1, h5⟩
  refine cw_seq ?_
  refine cw_region ?_
  refine ow_v (x_lss (k := .i64) (a := (i : Int)) (b := 12) h5 rfl) rfl ?_
  refine ow_nil ?_
  refine seqK_n ?_
  refine cw_seq ?_
  by_cases hc : (i : Int) < 12
  · refine cw_if_t rfl (decide_eq_true hc) ?_
    refine cw_skip ?_
    refine seqK_n ?_
    refine cw_seq ?_
    refine cw_block ?_
    refine cw_seq ?_
    refine cw_region ?_
    refine ow_v (x_move (v := .int .i64 (i : Int)) h5) rfl ?_
    refine ow_v (x_assign (v := .int .i64 (i : Int)) rfl) rfl ?_
    refine ow_nil ?_
    refine seqK_n ?_
    refine cw_seq ?_
    refine cw_region ?_
    refine ow_v (x_move (v := .int .i64 0) rfl) rfl ?_
    refine ow_nil ?_
    refine seqK_n ?_
    refine cw_block ?_
    refine cw_loop (S := fun k f ds w => ∃ j : Nat, j ≤ 4 ∧ k = 4 - j ∧ ds = [] ∧ Inv (4 * i + j) w ∧ f 0 = .func (.yield l) #[] #[] ∧ f 1 = .pointer (some ⟨b, 0, none⟩) ∧ f 5 = .int .i64 (i : Int) ∧ f 3 = .int .i64 (i : Int) ∧ f 8 = .int .i64 (j : Int)) ?_ (k := 4) ⟨0, by omega, rfl, rfl, hv, h0, h1, h5, rfl, rfl⟩
    clear hv h0 h1 h5
    rintro k f ds w ⟨j, hj, rfl, rfl, hv, h0, h1, h5, h3, h8⟩
    refine cw_seq ?_
    refine cw_region ?_
    refine ow_v (x_lss (k := .i64) (a := (j : Int)) (b := 4) h8 rfl) rfl ?_
    refine ow_nil ?_
    refine seqK_n ?_
    refine cw_seq ?_
    by_cases hc2 : (j : Int) < 4
    · refine cw_if_t rfl (decide_eq_true hc2) ?_
      refine cw_skip ?_
      refine seqK_n ?_
      refine cw_seq ?_
      refine cw_block ?_
      refine cw_seq ?_
      refine cw_region ?_
      refine ow_v (x_move (v := .int .i64 (j : Int)) h8) rfl ?_
      refine ow_v (x_assign (v := .int .i64 (j : Int)) rfl) rfl ?_
      refine ow_nil ?_
      refine seqK_n ?_
      obtain ⟨J, L, hs, hb⟩ := hS _ _ hv
      refine cw_seq ?_
      refine cw_region ?_
      refine ow_v (x_move (v := .func (.yield l) #[] #[]) h0) rfl ?_
      refine ow_field (b := b) (o := 0) fl26_0 h1 ?_
      refine ow_loadI (vs := [.int .i64 W]) (v := .int .i64 W) hs hb rfl ty3 rfl rfl rfl ?_
      refine ow_v (x_sub (k := .i64) (a := W) (b := 1) rfl rfl) rfl ?_
      refine ow_field (b := b) (o := 0) fl26_1 h1 ?_
      refine ow_loadI (vs := [.int .i64 H]) (v := .int .i64 H) hs hb rfl ty3 rfl rfl rfl ?_
      refine ow_v (x_sub (k := .i64) (a := H) (b := 1) rfl rfl) rfl ?_
      refine ow_v (x_move (v := .int .i64 (i : Int)) h3) rfl ?_
      refine ow_v (x_move (v := .int .i64 (j : Int)) rfl) rfl ?_
      refine ow_v (x_add (k := .i64) (a := (j : Int)) (b := 1) rfl rfl) rfl ?_
      refine ow_build (vp := [(2, .int .i64 (w64 (W - 1))), (3, .int .i64 (w64 (H - 1))), (4, .int .i64 (i : Int)), (5, .int .i64 (w64 ((j : Int) + 1)))]) (cs := [.int .i64 0, .int .i64 0, .int .i64 (w64 (W - 1)), .int .i64 (w64 (H - 1)), .int .i64 (i : Int), .int .i64 (w64 ((j : Int) + 1))]) st49 ty49 ⟨rfl, rfl, rfl, rfl, rfl, rfl, rfl, rfl, trivial⟩ rfl ?_
      have hbx : encB (theBox W H (4 * i + j)) = [.int .i64 0, .int .i64 0, .int .i64 (w64 (W - 1)), .int .i64 (w64 (H - 1)), .int .i64 (i : Int), .int .i64 (w64 ((j : Int) + 1))] := by
        have e1 : (4 * i + j) / 4 = i := by omega
        have e2 : (4 * i + j) % 4 = j := by omega
        have e3 : w64 ((j : Int) + 1) = (j : Int) + 1 := w64_small (by omega) (by omega)
        simp only [encB, theBox, e1, e2, e3]
      have hyc := hy (4 * i + j) (by omega) _ hv
      rw [hbx] at hyc
      refine ow_yield (vs := [.agg #[.int .i64 0, .int .i64 0, .int .i64 (w64 (W - 1)), .int .i64 (w64 (H - 1)), .int .i64 (i : Int), .int .i64 (w64 ((j : Int) + 1))]]) rfl ⟨rfl, trivial⟩ hyc ?_
      clear hs hb hv hyc; rintro _ w ⟨rfl, hv⟩
      refine ow_v (x_not (b := true) rfl) rfl ?_
      refine ow_nil ?_
      refine seqK_n ?_
      refine cw_cond_f rfl ?_
      refine cw_skip ?_
      refine blockK_n ?_
      refine seqK_n ?_
      refine cw_region ?_
      refine ow_v (x_add (k := .i64) (a := (j : Int)) (b := 1) h8 rfl) rfl ?_
      refine ow_v (x_move (v := .int .i64 ((j : Int) + 1)) (congrArg (Value.int .i64) (w64_small (x := (j : Int) + 1) (by omega) (by omega)))) rfl ?_
      refine ow_nil ?_
      exact loopK_n ⟨4 - (j + 1), by omega, j + 1, by omega, rfl, rfl, hv, h0, h1, h5, h3, by simp [upd, updO]⟩
    · refine cw_if_f rfl (decide_eq_false hc2) ?_
      refine cw_exit ?_
      refine seqK_x ?_
      refine loopK_x ?_
      refine blockK_hit ?_
      refine blockK_n ?_
      refine seqK_n ?_
      refine cw_region ?_
      refine ow_v (x_add (k := .i64) (a := (i : Int)) (b := 1) h5 rfl) rfl ?_
      refine ow_v (x_move (v := .int .i64 ((i : Int) + 1)) (congrArg (Value.int .i64) (w64_small (x := (i : Int) + 1) (by omega) (by omega)))) rfl ?_
      refine ow_nil ?_
      have : j = 4 := by omega
      subst this
      exact loopK_n ⟨12 - (i + 1), by omega, i + 1, by omega, rfl, rfl, hv, h0, h1, by simp [upd, updO]⟩
  · refine cw_if_f rfl (decide_eq_false hc) ?_
    refine cw_exit ?_
    refine seqK_x ?_
    refine loopK_x ?_
    refine blockK_hit ?_
    have : i = 12 := by omega
    subst this
    refine ret_ok (rs := []) (vs := []) (.inl rfl) rfl trivial ?_
    exact hv
end Go.HL.Try
