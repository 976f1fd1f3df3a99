/- A clone of numbers, off what is one's own or stays. -/
import Derived.Test.YtllfmfoahloldaaGreatZQ
import Derived.Test.YtllfmfoahloldaaGreatHL22
set_option linter.unusedVariables false
set_option linter.unusedSimpArgs false
set_option maxRecDepth 100000
set_option maxHeartbeats 400000
namespace Go.HL.Tz
open Go.HL Go.RowKit
attribute [local irreducible] OW CW CV
theorem gd24 : P.eqGuardType P.depth 24 = false := by kernel_rfl
theorem x_eqlNil24 {n : Nat} {f : FF} {w : World} {dd : Option Nat} {gg : Option (Nat × Bool)} {T T2 : TypeId} {pos : String} {af : Array Edge} {x y : Operand} {oa : Option Addr} {m c : Nat} (hx : ev n f x = .slice oa m c) (hy : ev n f y = .slice none 0 0) :
    (execOp (ev n f) ⟨dd, .binOp .eql 24 x y T2, T, pos, af, gg⟩).run P w = .ok (.value (.bool oa.isNone)) w := by
  have hg : (eqGuard .eql 24 x y (.slice oa m c) (.slice none 0 0)).run P w = .ok () w := by simp [eqGuard, gd24]
  have hu : P.underlying 24 = some (.slice 3) := by kernel_rfl
  have he : (Op.equal 24 (.slice oa m c) (.slice none 0 0)).run P w = .ok oa.isNone w := by
    unfold Op.equal
    rw [show Op.maxDepth = 9999 + 1 from rfl]
    unfold Op.equalIn
    simp only [Sem.run_bind, run_underlying hu, Result.andThen_ok]
    cases oa <;> rfl
  simp only [execOp, hx, hy, Sem.run_bind, hg, Result.andThen_ok, binOp, he, Sem.run_pure]
theorem sl24' : SliceT P 24 3 := (by kernel_rfl : P.underlying 24 = some (.slice 3))
theorem x_build0 {f : FF} {n : Nat} {w : World} {dd : Option Nat} {gg : Option (Nat × Bool)} {T : TypeId} {pos : String} {af : Array Edge} :
    (execOp (ev n f) ⟨dd, .buildSlice 24 0 #[], T, pos, af, gg⟩).run P w = .ok (.value (.slice (some ⟨w.heap.size, 0, none⟩) 0 0)) (w.alloc (.cells #[] 3)) := by
  have h0 : Array.range 0 = #[] := Array.ext (by simp) (fun i h1 h2 => by simp at h2)
  simp [execOp, Instr.buildSlice, run_underlying sl24', ty3.run_sizeOf, Instr.fill, newRow, h0]
theorem cell_alloc {w : World} {o : Obj} {a : Addr} {v : Value} (h : w.cell? a = some v) : (w.alloc o).cell? a = some v := by
  unfold World.cell? at h ⊢
  cases hb : w.heap[a.block]? with
  | none => rw [hb] at h; cases h
  | some ob => rw [heap_alloc_old w o (lt_of_heap hb), hb]; rw [hb] at h; exact h
theorem x_append0 {f : FF} {n : Nat} {w : World} {dd : Option Nat} {T : TypeId} {pos : String} {af : Array Edge} {gg : Option (Nat × Bool)} {x y : Operand} {b c : Nat} {a : Addr} {xs : List Int} {I : Im} {L : List HP} (hs : Sat I (osl 3 1 (some ⟨b, 0, none⟩) 0 0 [] :: L) w)
    (hx : ev n f x = .slice (some ⟨b, 0, none⟩) 0 0) (hy : ev n f y = .slice (some a) xs.length c) (hlen : xs.length ≤ 1099511627776) (hsrc : ∀ j v, (xs.flatMap e64)[j]? = some v → w.cell? (a.add j) = some v) :
    ∃ oa' c' w', (execOp (ev n f) ⟨dd, .call ⟨.builtin .append, #[x, y], #[24, 24]⟩, T, pos, af, gg⟩).run P w = .ok (.value (.slice oa' xs.length c')) w' ∧ Sat I (osl 3 1 oa' xs.length c' (xs.flatMap e64) :: L) w' := by
  have hfl : (xs.flatMap e64).length = xs.length := by rw [flat_len e64 1 (fun _ => rfl), Nat.mul_one]
  rcases Nat.eq_zero_or_pos xs.length with h0 | h0
  · have : xs = [] := List.length_eq_zero_iff.1 h0
    subst this
    refine ⟨some ⟨b, 0, none⟩, 0, w, ?_, hs⟩
    simp [execOp, resolve, hx, hy, invoke, builtin, Builtin.append_, run_underlying sl24', ty3.run_sizeOf, Builtin.lenOf, Builtin.firstCells, loadCells, loadCellsFrom, storeCells]
  · have hi : ∃ i, P.info? 3 = some i ∧ i.size = 1 ∧ i.zero = some (.int .i64 0) ∧ i.bytes = 8 := by
      obtain ⟨i, hi, he⟩ := Option.map_eq_some_iff.1 ty3.info
      simp only [Prod.mk.injEq] at he
      have hb : (P.info? 3).map (·.bytes) = some 8 := by kernel_rfl
      rw [hi] at hb
      simp only [Option.map_some, Option.some.injEq] at hb
      exact ⟨i, hi, he.1, he.2, hb⟩
    obtain ⟨i, hi, hi1, hi2, hi3⟩ := hi
    have hrun := run_append_grow (P := P) (w := w) 24 T 3 i _ sl24' hi hi2 ⟨b, 0, none⟩ 0 0 [] (by simp) (fun j v hv => by simp at hv) a xs.length c (xs.flatMap e64) (by rw [hi1, hfl, Nat.mul_one]) hsrc (by omega) (by omega) (by
      rw [hi3]
      exact growslice_fits (by omega) (by omega))
    simp only [Nat.zero_add] at hrun
    have hge := grownCap_ge w xs.length 0 3
    have hcm := grownCap_le_maxLen w xs.length 0 3 (by unfold maxLen; omega)
    refine ⟨some ⟨w.heap.size, 0, none⟩, grownCap w xs.length 0 3, _, by simp only [execOp, resolve, List.map_toArray, List.map_cons, List.map_nil, hx, hy, Sem.run_bind, Sem.run_pure, Result.andThen_ok, invoke, builtin, hrun]; rfl, ?_⟩
    have h1 : Sat I (osl 3 1 (some ⟨b, 0, none⟩) 0 0 [] :: L) w.drew := hs.drew
    have h2 := h1.push (.cells (([] : List Value).toArray ++ (xs.flatMap e64).toArray ++ Builtin.zeroCells (Value.int .i64 0).cells (grownCap w xs.length 0 3 - xs.length)) 3) (osl 3 1 (some ⟨w.heap.size, 0, none⟩) xs.length (grownCap w xs.length 0 3) (xs.flatMap e64)) (by
      refine ⟨by rw [hfl, Nat.mul_one], .inr ⟨w.heap.size, _, rfl, if_pos rfl, by omega, hcm, ?_, ?_⟩⟩
      · simp only [Array.size_append, List.size_toArray, size_zeroCells, hfl, List.length_nil, Value.cells]
        simp; omega
      · rw [Array.toList_append, Array.toList_append]
        simp only [List.toList_toArray, List.nil_append]
        rw [List.take_append_of_le_length (by rw [hfl]; omega), List.take_of_length_le (by rw [hfl]; omega)])
    exact h2.erase 1
theorem f44_ok {xs : List Int} {oa : Option Addr} {c : Nat} {I : Im} {L : List HP} {w : World} (hs : Sat I L w) (hlen : xs.length ≤ 1099511627776) (hnone : oa = none → xs = []) (hsrc : ∀ a, oa = some a → ∀ j v, (xs.flatMap e64)[j]? = some v → w.cell? (a.add j) = some v) :
    CV P 44 [.slice oa xs.length c] w fun v w' => ∃ oa' c', Sat I (osl 3 1 oa' xs.length c' (xs.flatMap e64) :: L) w' ∧ v = .slice oa' xs.length c' := by
  refine cv_of (n := 8) Go.Proofs.Tryz.func44 rfl rfl (Nat.le_of_ble_eq_true rfl) ?_
  refine cQ ?_
  refine cR ?_
  refine oV (xA (v := .slice none 0 0) rfl) rfl ?_
  refine oN ?_
  refine sK ?_
  refine cQ ?_
  refine cQ ?_
  refine cR ?_
  refine oV (xM (v := .slice oa xs.length c) rfl) rfl ?_
  refine oV (v := .bool oa.isNone) (x_eqlNil24 (oa := oa) (m := xs.length) (c := c) rfl rfl) rfl ?_
  refine oN ?_
  refine sK ?_
  cases oa with
  | none =>
    have := hnone rfl
    subst this
    refine cw_cond_t rfl ?_
    refine cQ ?_
    refine cR ?_
    refine oV (xA (v := .slice none 0 0) rfl) rfl ?_
    refine oN ?_
    refine sK ?_
    refine cw_ret ?_
    refine seqK_r ?_
    refine rK (rs := [.tmp 2]) (vs := [.slice none 0 0]) (.inr rfl) rfl ⟨rfl, trivial⟩ ?_
    exact ⟨none, 0, hs.pushNil 3 1, rfl⟩
  | some a =>
    refine cw_cond_f rfl ?_
    refine cw_skip ?_
    refine sK ?_
    refine cQ ?_
    refine cR ?_
    refine oV (w' := w.alloc (.cells #[] 3)) (v := .slice (some ⟨w.heap.size, 0, none⟩) 0 0) x_build0 rfl ?_
    have h1 : Sat I (osl 3 1 (some ⟨w.heap.size, 0, none⟩) 0 0 [] :: L) (w.alloc (.cells #[] 3)) := hs.push _ _ ⟨by simp, .inr ⟨w.heap.size, #[], rfl, if_pos rfl, Nat.le_refl _, by unfold maxLen; omega, rfl, rfl⟩⟩
    refine oV (xM (v := .slice (some a) xs.length c) rfl) rfl ?_
    obtain ⟨oa', c', w', hrun, hs'⟩ := x_append0 (n := 8) (f := upd (upd (upd (upd (upd (argF [.slice (some a) xs.length c]) 2 (.slice none 0 0)) 3 (.slice (some a) xs.length c)) 4 (.bool false)) 5 (.slice (some ⟨w.heap.size, 0, none⟩) 0 0)) 6 (.slice (some a) xs.length c)) (x := .tmp 5) (y := .tmp 6) (dd := some 7) (gg := none) (T := 24) (pos := _) (af := _) h1 rfl rfl hlen (fun j v hv => cell_alloc (hsrc a rfl j v hv))
    refine oV (v := .slice oa' xs.length c') (w' := w') hrun rfl ?_
    refine oV (xA (v := .slice oa' xs.length c') rfl) rfl ?_
    refine oN ?_
    refine sK ?_
    refine cw_ret ?_
    refine rK (rs := [.tmp 2]) (vs := [.slice oa' xs.length c']) (.inr rfl) rfl ⟨rfl, trivial⟩ ?_
    exact ⟨oa', c', hs', rfl⟩
end Go.HL.Tz
