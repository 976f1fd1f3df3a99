/- The keys of the cover. -/
import Derived.Test.YtllfmfoahloldaaF14
import Derived.Test.YtllfmfoahloldaaHL13
set_option linter.unusedVariables false
set_option linter.unusedSimpArgs false
set_option maxRecDepth 100000
set_option maxHeartbeats 400000
namespace Go.HL.Try
open Go.HL
abbrev K4 := Int × Int × Int × Int
def kv38 (x : K4) : Value := .agg #[.int .i64 x.1, .int .i64 x.2.1, .int .i64 x.2.2.1, .int .i64 x.2.2.2]
theorem u38 : P.underlying 38 = some (.struct (P.fieldsOf 38)) := by kernel_rfl
theorem chk38 (e : Bool) (a : K4) (w : World) : (Instr.checkKey e 10000 38 (kv38 a)).run P w = .ok () w := by
  have u3 := Go.Proofs.Try.underlying3
  have a3 := Go.Proofs.Try.isAgg3
  have c3 : ∀ n x w, (Instr.checkKey e (n + 1) 3 (.int .i64 x)).run P w = .ok () w := fun n x w => by
    unfold Instr.checkKey; simp [run_underlying u3]
  rw [show (10000 : Nat) = 9998 + 1 + 1 from rfl]
  unfold Instr.checkKey
  simp only [Sem.run_bind, run_underlying Go.Proofs.Try.underlying38, Result.andThen_ok, kv38]
  simp [part, a3, c3]
theorem key38 : KeyT P 38 kv38 := by
  refine KeyT.struct u38 (fun a b => rfl) (fun a b w => ?_) chk38 (fun a => by simp [kv38, Instr.sameBits])
  have := eq38 9998 a.1 a.2.1 a.2.2.1 a.2.2.2 b.1 b.2.1 b.2.2.1 b.2.2.2 w
  exact this
theorem getM_ent {K V : Type} [DecidableEq K] (l : List (K × V)) (k : K) (z : V) : getM (entM l k z).1 k z = getM l k z := by
  have key : ∀ (l : List (K × V)) (i : Nat), findM l k i = none → findM (l ++ [(k, z)]) k i = some (i + l.length, z) := by
    intro l
    induction l with
    | nil => intro i _; simp [findM]
    | cons a l ih =>
      intro i h
      unfold findM at h
      split at h
      · cases h
      · rename_i h2
        rw [List.cons_append]
        unfold findM
        rw [if_neg h2, ih (i + 1) h]
        simp; omega
  unfold getM entM
  cases h : findM l k 0 with
  | none => simp [key l 0 h]
  | some p => simp [h]
theorem entM_lt {K V : Type} [DecidableEq K] (l : List (K × V)) (k : K) (z : V) : (entM l k z).2.2 < (entM l k z).1.length := by
  unfold entM
  cases h : findM l k 0 with
  | none => simp
  | some p =>
    obtain ⟨i, v⟩ := p
    obtain ⟨_, h2⟩ := findM_at h
    have := (List.getElem?_eq_some_iff.1 h2).1
    simpa using this
abbrev vi64 (x : Int) : Value := .int .i64 x
end Go.HL.Try
