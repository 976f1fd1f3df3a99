/- From a walk to a row: slices of numbers that came in, and what a call leaves; it holds of every program. -/
import Derived.Test.YtllfmfoahloldaaGreatHL10
import Derived.Below
set_option linter.unusedVariables false
set_option linter.unusedSimpArgs false
namespace Go.HL
open Go.RowKit
def imOf (w : World) : Im := ⟨fun b => w.heap[b]?, w.os, w.tape, w.output, w.drawn⟩
theorem sat_imOf (w : World) : Sat (imOf w) [] w := ⟨fun _ _ h => h, rfl, rfl, ⟨rfl, Nat.le_refl _⟩, trivial⟩
theorem rs_ints {W : World} {k : IntKind} {x : Addr} {len cap : Nat} {zs : List Int} (hl : len ≤ cap) (hm : cap ≤ maxLen) (hz : zs.length = cap) (hcell : ∀ i, i < zs.length → W.cell? (x.add i) = some (.int k (zs.getD i 0))) (hw : ∀ n ∈ zs, (Lit.int k n).wf = true) :
    ∃ l : List Int, l.length = len ∧ Rs (imOf W) 1 (some x) l.length cap (l.map fun x => Value.int k x) ∧ ∀ n ∈ l, (Lit.int k n).wf = true := by
  have hlen : (zs.take len).length = len := by rw [List.length_take]; omega
  refine ⟨zs.take len, hlen, ⟨by simp, by omega, hm, ?_⟩, fun n hn => hw n (List.mem_of_mem_take hn)⟩
  rcases Nat.eq_zero_or_pos len with h0 | h0
  · left; omega
  right
  have c0 := hcell 0 (by omega)
  obtain ⟨b, o, sp⟩ := x
  have hsp : sp = none := by
    simp only [Addr.add, if_true, World.cell?] at c0
    split at c0
    · cases sp with
      | none => rfl
      | some _ => simp at c0
    · cases c0
  subst hsp
  have hb : ∃ cur T fr, W.heap[b]? = some (.cells cur T fr) := by
    simp only [Addr.add, if_true, World.cell?] at c0
    split at c0
    · rename_i c T fr h; exact ⟨c, T, fr, h⟩
    · cases c0
  obtain ⟨cur, T, fr, hb⟩ := hb
  refine ⟨b, o, cur, T, fr, rfl, hb, fun j v hj => ?_⟩
  have hj' : j < len := by
    have := (List.getElem?_eq_some_iff.1 hj).1
    simp at this; omega
  have c1 := hcell j (by omega)
  rw [add_none] at c1
  simp only [World.cell?, hb, Option.isSome_none] at c1
  have c2 : cur[o + j]? = some (.int k (zs.getD j 0)) := by simpa using c1
  rw [c2]
  rw [List.getElem?_map, List.getElem?_take, if_pos hj'] at hj
  have h3 : zs[j]? = some (zs.getD j 0) := by rw [List.getD_eq_getElem?_getD, List.getElem?_eq_getElem (by omega)]; rfl
  rw [h3] at hj
  simpa using hj
theorem flat_map1 (k : IntKind) (l : List Int) : l.flatMap (fun x => [Value.int k x]) = l.map fun x => Value.int k x := by
  induction l with
  | nil => rfl
  | cons a l ih => rw [List.flatMap_cons, ih]; rfl
theorem wf_u8 {a : Int} (h : (Lit.int .u8 a).wf = true) : 0 ≤ a ∧ a ≤ 255 := by
  have h1 : IntKind.min .u8 = 0 := by decide
  have h2 : IntKind.max .u8 = 255 := by decide
  simp only [Lit.wf, Bool.and_eq_true, decide_eq_true_eq, h1, h2] at h
  exact h
theorem wf_u16 {a : Int} (h : (Lit.int .u16 a).wf = true) : 0 ≤ a ∧ a ≤ 65535 := by
  have h1 : IntKind.min .u16 = 0 := by decide
  have h2 : IntKind.max .u16 = 65535 := by decide
  simp only [Lit.wf, Bool.and_eq_true, decide_eq_true_eq, h1, h2] at h
  exact h
theorem below_of {W w : World} {J : Im} {L : List HP} (hs : Sat J L w) (hle : Im.le (imOf W) J) : Below W.heap.size W w := by
  have hold : ∀ b, b < W.heap.size → w.heap[b]? = W.heap[b]? := fun b hb => by
    have h1 : W.heap[b]? = some W.heap[b] := Array.getElem?_eq_getElem hb
    rw [h1]
    exact hs.imm b _ (hle.ph b _ h1)
  refine ⟨hs.os.trans hle.os, hs.tape.trans hle.tape, hs.output.1.trans hle.output.1, ?_, hold⟩
  rcases Nat.lt_or_ge w.heap.size W.heap.size with h | h
  · have := hold _ h
    rw [Array.getElem?_eq_getElem h] at this
    simp at this
  · exact h
theorem calls_below {P : Program} {k : FuncId} {args : List Value} {W : World} {F : List HP} (h : CV P k args W fun v w' => ∃ (J : Im), Im.le (imOf W) J ∧ Sat J F w' ∧ v = .bool true) : Calls P k args.toArray W fun e w' => e = .returned (.bool true) ∧ Below W.heap.size W w' := by
  refine Calls.mono h ?_
  rintro e w' ⟨v, rfl, J, hle, hs, rfl⟩
  exact ⟨rfl, below_of hs hle⟩
end Go.HL
