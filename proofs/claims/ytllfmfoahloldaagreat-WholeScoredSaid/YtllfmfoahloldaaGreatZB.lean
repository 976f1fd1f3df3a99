/- The ground of the walks over the great program: the places of an image, one by one. -/
import Derived.Test.YtllfmfoahloldaaGreatHL15
import Derived.Test.YtllfmfoahloldaaGreatHL18
import Derived.Test.YtllfmfoahloldaaGreatProg
set_option linter.unusedVariables false
set_option linter.unusedSimpArgs false
set_option maxRecDepth 100000
set_option maxHeartbeats 400000
namespace Go.HL.Tz
open Go.HL
attribute [local irreducible] OW CW CV
noncomputable abbrev P : Program := Go.Proofs.Tryz.prog
abbrev vi64 (x : Int) : Value := .int .i64 x
abbrev vbl (x : Bool) : Value := .bool x
theorem ty3 : TyC P 3 false [.int .i64 0] := ⟨by kernel_rfl, by kernel_rfl, (fun _ => rfl), by kernel_rfl⟩
theorem en120 : Go.Proofs.Enters P 120 := Go.Proofs.enters_of Go.Proofs.Tryz.func120 (by kernel_rfl) rfl
theorem en146 : Go.Proofs.Enters P 146 := Go.Proofs.enters_of Go.Proofs.Tryz.func146 (by kernel_rfl) rfl
/-- The places of an image: how many, and where each lies. -/
def pN (W H : Int) : Nat := H.toNat * W.toNat
def pXY (W : Int) (j : Nat) : Int × Int := (((j % W.toNat : Nat) : Int), ((j / W.toNat : Nat) : Int))
theorem w64_u {x : Int} (h0 : 0 ≤ x) (h1 : x < 1000000000) : w64 x = x := w64_id (by omega) (by omega)
theorem f120_ok {x y : Int} {I : Im} {F : List HP} {w : World} (hs : Sat I F w) : CV P 120 [.int .i64 x, .int .i64 y] w fun v w' => ∃ (J : Im) (bh bw : Nat), Im.le I J ∧ Sat J F w' ∧ v = .func (.func 146) #[] #[.pointer (some ⟨bh, 0, none⟩), .pointer (some ⟨bw, 0, none⟩)] ∧ Ib J bh 3 [.int .i64 y] ∧ Ib J bw 3 [.int .i64 x] := by
  refine cv_of (n := 6) Go.Proofs.Tryz.func120 rfl rfl (Nat.le_of_ble_eq_true rfl) ?_
  refine cQ ?_
  refine cR ?_
  refine oB (v := .int .i64 x) (cs := [.int .i64 x]) hs rfl rfl ?_
  clear hs; intro bw w hs
  refine oB (v := .int .i64 y) (cs := [.int .i64 y]) hs rfl rfl ?_
  clear hs; intro bh w hs
  refine oV (xA (v := .nilFunc) rfl) rfl ?_
  refine oN ?_
  refine sK ?_
  refine cQ ?_
  refine cR ?_
  refine oV (x_funcL (vf := []) (vc := [.pointer (some ⟨bh, 0, none⟩), .pointer (some ⟨bw, 0, none⟩)]) trivial ⟨rfl, rfl, trivial⟩) rfl ?_
  refine oV (xA (v := .func (.func 146) #[] #[.pointer (some ⟨bh, 0, none⟩), .pointer (some ⟨bw, 0, none⟩)]) rfl) rfl ?_
  refine oN ?_
  refine sK ?_
  refine cw_ret ?_
  refine rK (rs := [.tmp 4]) (vs := [.func (.func 146) #[] #[.pointer (some ⟨bh, 0, none⟩), .pointer (some ⟨bw, 0, none⟩)]]) (.inr rfl) rfl ⟨rfl, trivial⟩ ?_
  obtain ⟨J, hle, hI, hs⟩ := hs.freezeB
  obtain ⟨J2, hle2, hI2, hs⟩ := hs.freezeB
  exact ⟨J2, bh, bw, hle.trans hle2, hs, rfl, hI.mono hle2, hI2⟩
theorem f146_it {l bh bw : Nat} (W H : Int) (hb : (0 ≤ W ∧ W ≤ 1000000) ∧ 0 ≤ H ∧ H ≤ 1000000) (Inv : Nat → World → Prop) (hS : ∀ j w, Inv j w → ∃ J L, Sat J L w ∧ Ib J bh 3 [.int .i64 H] ∧ Ib J bw 3 [.int .i64 W])
    (hy : ∀ j, j < pN W H → ∀ w, Inv j w → YC P l [.int .i64 (pXY W j).1, .int .i64 (pXY W j).2] (fun v w' => v = .bool true ∧ Inv (j + 1) w') w) {w : World} (h0 : Inv 0 w) :
    CV P 146 [.func (.yield l) #[] #[], .pointer (some ⟨bh, 0, none⟩), .pointer (some ⟨bw, 0, none⟩)] w (fun _ w' => Inv (pN W H) w') := by
  obtain ⟨hW, hH⟩ := hb
  refine cv_of (n := 21) Go.Proofs.Tryz.func146 rfl rfl (Nat.le_of_ble_eq_true rfl) ?_
  obtain ⟨J, L, hs, hbh, hbw⟩ := hS _ _ h0
  refine cQ ?_
  refine cR ?_
  refine ow_loadI (vs := [.int .i64 H]) (v := .int .i64 H) hs hbh rfl ty3 rfl rfl rfl ?_
  refine oV (xM (v := .int .i64 0) rfl) rfl ?_
  refine oN ?_
  refine sK ?_
  clear hs hbh hbw
  refine cw_block ?_
  refine cL (S := fun k f ds w => ∃ i : Nat, i ≤ H.toNat ∧ k = H.toNat - i ∧ ds = [] ∧ Inv (i * W.toNat) w ∧ f 0 = .func (.yield l) #[] #[] ∧ f 1 = .pointer (some ⟨bh, 0, none⟩) ∧ f 2 = .pointer (some ⟨bw, 0, none⟩) ∧ f 6 = .int .i64 H ∧ f 7 = .int .i64 (i : Int)) ?_ (k := H.toNat) ⟨0, by omega, rfl, rfl, by rw [Nat.zero_mul]; exact h0, rfl, rfl, rfl, rfl, rfl⟩
  clear h0
  rintro k f ds w ⟨i, hi, rfl, rfl, hv, g0, g1, g2, g6, g7⟩
  refine cQ ?_
  refine cR ?_
  refine oV (x_lss (k := .i64) (a := (i : Int)) (b := H) g7 g6) rfl ?_
  refine oN ?_
  refine sK ?_
  refine cQ ?_
  by_cases hc : (i : Int) < H
  · refine cIt rfl (decide_eq_true hc) ?_
    refine cw_skip ?_
    refine sK ?_
    refine cQ ?_
    refine cw_block ?_
    refine cQ ?_
    refine cR ?_
    refine oV (xM (v := .int .i64 (i : Int)) g7) rfl ?_
    refine oV (xA (v := .int .i64 (i : Int)) rfl) rfl ?_
    refine oN ?_
    refine sK ?_
    obtain ⟨J, L, hs, hbh, hbw⟩ := hS _ _ hv
    refine cQ ?_
    refine cR ?_
    refine ow_loadI (vs := [.int .i64 W]) (v := .int .i64 W) hs hbw g2 ty3 rfl rfl rfl ?_
    refine oV (xM (v := .int .i64 0) rfl) rfl ?_
    refine oN ?_
    refine sK ?_
    clear hs hbh hbw
    refine cw_block ?_
    refine cL (S := fun k f ds w => ∃ j : Nat, j ≤ W.toNat ∧ k = W.toNat - j ∧ ds = [] ∧ Inv (i * W.toNat + j) w ∧ f 0 = .func (.yield l) #[] #[] ∧ f 1 = .pointer (some ⟨bh, 0, none⟩) ∧ f 2 = .pointer (some ⟨bw, 0, none⟩) ∧ f 6 = .int .i64 H ∧ f 7 = .int .i64 (i : Int) ∧ f 4 = .int .i64 (i : Int) ∧ f 10 = .int .i64 W ∧ f 11 = .int .i64 (j : Int)) ?_ (k := W.toNat) ⟨0, by omega, rfl, rfl, hv, g0, g1, g2, g6, g7, rfl, rfl, rfl⟩
    clear hv g0 g1 g2 g6 g7
    rintro k f ds w ⟨j, hj, rfl, rfl, hv, g0, g1, g2, g6, g7, g4, g10, g11⟩
    refine cQ ?_
    refine cR ?_
    refine oV (x_lss (k := .i64) (a := (j : Int)) (b := W) g11 g10) rfl ?_
    refine oN ?_
    refine sK ?_
    refine cQ ?_
    by_cases hc2 : (j : Int) < W
    · refine cIt rfl (decide_eq_true hc2) ?_
      refine cw_skip ?_
      refine sK ?_
      refine cQ ?_
      refine cw_block ?_
      refine cQ ?_
      refine cR ?_
      refine oV (xM (v := .int .i64 (j : Int)) g11) rfl ?_
      refine oV (xA (v := .int .i64 (j : Int)) rfl) rfl ?_
      refine oN ?_
      refine sK ?_
      refine cQ ?_
      refine cR ?_
      refine oV (xM (v := .func (.yield l) #[] #[]) g0) rfl ?_
      refine oV (xM (v := .int .i64 (j : Int)) rfl) rfl ?_
      refine oV (xM (v := .int .i64 (i : Int)) g4) rfl ?_
      have hlt : i * W.toNat + j < pN W H := by
        unfold pN
        have h1 : i + 1 ≤ H.toNat := by omega
        have h2 := Nat.mul_le_mul_right W.toNat h1
        rw [Nat.succ_mul] at h2
        omega
      have hWp : 0 < W.toNat := by omega
      have e1 : pXY W (i * W.toNat + j) = ((j : Int), (i : Int)) := by
        unfold pXY
        have h3 : (i * W.toNat + j) % W.toNat = j := by rw [Nat.mul_comm, Nat.mul_add_mod, Nat.mod_eq_of_lt (by omega)]
        have h4 : (i * W.toNat + j) / W.toNat = i := by rw [Nat.mul_comm, Nat.mul_add_div hWp, Nat.div_eq_of_lt (by omega)]; omega
        rw [h3, h4]
      have hyc := hy (i * W.toNat + j) hlt _ hv
      rw [e1] at hyc
      refine ow_yield (vs := [.int .i64 (j : Int), .int .i64 (i : Int)]) rfl ⟨rfl, rfl, trivial⟩ hyc ?_
      clear hv hyc; rintro _ w ⟨rfl, hv⟩
      refine oV (x_not (b := true) rfl) rfl ?_
      refine oN ?_
      refine sK ?_
      refine cw_cond_f rfl ?_
      refine cw_skip ?_
      refine blockK_n ?_
      refine sK ?_
      refine cR ?_
      refine oV (x_add (k := .i64) (a := (j : Int)) (b := 1) g11 rfl) rfl ?_
      refine oV (xM (v := .int .i64 ((j : Int) + 1)) (congrArg (Value.int .i64) (w64_u (x := (j : Int) + 1) (by omega) (by omega)))) rfl ?_
      refine oN ?_
      exact lN ⟨W.toNat - (j + 1), by omega, j + 1, by omega, rfl, rfl, hv, g0, g1, g2, g6, g7, g4, g10, by simp [upd, updO]⟩
    · refine cIf rfl (decide_eq_false hc2) ?_
      refine cw_exit ?_
      refine seqK_x ?_
      refine loopK_x ?_
      refine blockK_hit ?_
      refine blockK_n ?_
      refine sK ?_
      refine cR ?_
      refine oV (x_add (k := .i64) (a := (i : Int)) (b := 1) g7 rfl) rfl ?_
      refine oV (xM (v := .int .i64 ((i : Int) + 1)) (congrArg (Value.int .i64) (w64_u (x := (i : Int) + 1) (by omega) (by omega)))) rfl ?_
      refine oN ?_
      have : j = W.toNat := by omega
      subst this
      exact lN ⟨H.toNat - (i + 1), by omega, i + 1, by omega, rfl, rfl, by rw [Nat.succ_mul]; exact hv, g0, g1, g2, g6, by simp [upd, updO]⟩
  · refine cIf rfl (decide_eq_false hc) ?_
    refine cw_exit ?_
    refine seqK_x ?_
    refine loopK_x ?_
    refine blockK_hit ?_
    have : i = H.toNat := by omega
    subst this
    refine rK (rs := []) (vs := []) (.inl rfl) rfl trivial ?_
    exact hv
end Go.HL.Tz
