/- Ranges over maps that are one's own; they hold of every program. -/
import Derived.Test.YtllfmfoahloldaaHL12
import Derived.Maps.RangeRun
set_option linter.unusedVariables false
set_option linter.unusedSimpArgs false
set_option linter.unusedSectionVars false
namespace Go.HL
open Go.RowKit
section
variable {K V : Type} [DecidableEq K]
variable {P : Program} {r : Option Nat} {n : Nat} {KK' : KK} {f : FF} {ds : List Deferred} {w w' : World} {all : Array Oper} {rest : List Oper}
variable {T : TypeId} {pos : String} {af : Array Edge} {d : Nat} {I : Im} {L : List HP} {t kt et : TypeId} {x y z : Operand} {kv : K → Value} {vv : V → Value} {l : List (K × V)} {m it q q2 : Nat}
def mit (it m len : Nat) (seen : List Nat) : HP := ob it (.mapIter (some m) len seen.toArray len)
theorem ow_len_map (hu : P.underlying t = some (.map kt et)) (hs : Sat I L w) (hq : L[q]? = some (mp m kv vv l)) (hx : ev n f x = .map (some m)) (h : OW P r n all KK' rest (upd f d (.int .i64 (l.length : Int))) ds w) :
    OW P r n all KK' (⟨some d, .call ⟨.builtin .len, #[x], #[t]⟩, T, pos, af, none⟩ :: rest) f ds w := by
  have hb := hs.ob hq
  have hg : (getObj m).run P w = .ok (.map (mkEs kv vv l 0).toArray l.length) w := by simp [getObj, Sem.run, hb]
  refine ow_v (v := .int .i64 (l.length : Int)) ?_ rfl h
  simp [execOp, resolve, hx, invoke, builtin, Builtin.len_, run_underlying hu, hg, goInt, mkEs_len]
theorem ow_rangeMap (hu : P.underlying t = some (.map kt et)) (hs : Sat I L w) (hq : L[q]? = some (mp m kv vv l)) (hx : ev n f x = .map (some m))
    (h : ∀ it w', Sat I (mit it m l.length [] :: L) w' → OW P r n all KK' rest (upd f d (.pointer (some ⟨it, 0, none⟩))) ds w') : OW P r n all KK' (⟨some d, .range t x, T, pos, af, none⟩ :: rest) f ds w := by
  have hb := hs.ob hq
  have hg : (getObj m).run P w = .ok (.map (mkEs kv vv l 0).toArray l.length) w := by simp [getObj, Sem.run, hb]
  refine ow_v (w' := w.alloc (.mapIter (some m) l.length #[] l.length)) (v := .pointer (some ⟨w.heap.size, 0, none⟩)) ?_ rfl (h _ _ (hs.push _ _ (by simp [mit, HL.ob])))
  simp [execOp, Instr.range, run_underlying hu, hx, hg]
theorem mem_mkEs {e : MapEntry} : ∀ {l : List (K × V)} {i : Nat}, e ∈ mkEs kv vv l i → ∃ j k v, l[j]? = some (k, v) ∧ e = ⟨kv k, vv v, i + j⟩
  | [], _, h => by simp [mkEs] at h
  | a :: l, i, h => by
    rw [mkEs_cons, List.mem_cons] at h
    rcases h with rfl | h
    · exact ⟨0, a.1, a.2, by simp, by simp⟩
    · obtain ⟨j, k, v, h1, h2⟩ := mem_mkEs h
      exact ⟨j + 1, k, v, by simpa using h1, by rw [h2]; congr 1; omega⟩
theorem ow_next {seen : List Nat} {TT : TypeId} (hs : Sat I L w) (hq : L[q]? = some (mp m kv vv l)) (hq2 : L[q2]? = some (mit it m l.length seen)) (hx : ev n f x = .pointer (some ⟨it, 0, none⟩))
    (hA : (∀ j, j < l.length → j ∈ seen) → OW P r n all KK' rest (upd f d (.tuple #[.bool false])) ds w)
    (hB : ∀ j k v w', l[j]? = some (k, v) → j ∉ seen → Sat I (L.set q2 (mit it m l.length (seen ++ [j]))) w' → OW P r n all KK' rest (upd f d (.tuple #[.bool true, kv k, vv v])) ds w') :
    OW P r n all KK' (⟨some d, .next x false, T, pos, af, none⟩ :: rest) f ds w := by
  have hb := hs.ob hq
  have hr := hs.ob hq2
  have hold : ∀ e ∈ (mkEs kv vv l 0).toArray.toList, e.born < l.length := by
    intro e he
    obtain ⟨j, k, v, h1, rfl⟩ := mem_mkEs (by simpa using he)
    have := (List.getElem?_eq_some_iff.1 h1).1
    simpa using this
  rcases run_next_at (P := P) w T it m l.length l.length seen.toArray (mkEs kv vv l 0).toArray l.length hr hb hold (Nat.le_refl _) with ⟨h0, hrun⟩ | ⟨e, he, w1, hw1, hrun⟩
  · refine ow_v (v := .tuple #[.bool false]) (by simp only [execOp, hx, Sem.run_bind, hrun, Result.andThen_ok, Sem.run_pure]) rfl (hA fun j hj => ?_)
    have h1 : (mkEs kv vv l 0)[j]? = some ⟨kv l[j].1, vv l[j].2, 0 + j⟩ := by rw [mkEs_get, List.getElem?_eq_getElem hj]; rfl
    have h2 := List.mem_of_getElem? h1
    have h3 : leftOf (mkEs kv vv l 0).toArray seen.toArray = #[] := Array.eq_empty_of_size_eq_zero h0
    unfold leftOf at h3
    rw [Array.filter_eq_empty_iff] at h3
    have := h3 _ (by simpa using h2)
    simpa using this
  · unfold leftOf at he
    have he' : e ∈ mkEs kv vv l 0 ∧ ¬ e.born ∈ seen := by simpa using he
    obtain ⟨j, k, v, h1, rfl⟩ := mem_mkEs he'.1
    rw [Nat.zero_add] at hrun he'
    have hs1 : Sat I L w1 := by rcases hw1 with rfl | rfl; exact hs; exact hs.drew
    have hs2 := hs1.putOb hq2 (.mapIter (some m) l.length (seen.toArray.push j) l.length)
    have e1 : HL.ob it (.mapIter (some m) l.length (seen.toArray.push j) l.length) = mit it m l.length (seen ++ [j]) := by simp [mit]
    rw [e1] at hs2
    refine ow_v (w' := w1.putObj it (.mapIter (some m) l.length (seen.toArray.push j) l.length)) ?_ rfl (hB j k v _ h1 he'.2 hs2)
    simp only [execOp, hx, Sem.run_bind, hrun, Result.andThen_ok, Sem.run_pure]
    rfl
theorem nodup_born : ∀ (l : List (K × V)) (i : Nat), ((mkEs kv vv l i).map (·.born)).Nodup := by
  intro l i
  have : (mkEs kv vv l i).map (·.born) = List.range' i l.length := by
    induction l generalizing i with
    | nil => simp [mkEs]
    | cons a l ih => rw [mkEs_cons, List.map_cons, ih]; simp [List.range'_succ]
  rw [this]
  exact List.nodup_range'
theorem ow_entry {seen : List Nat} {j : Nat} {k : K} {v : V} (hs : Sat I L w) (hq : L[q]? = some (mp m kv vv l)) (hq2 : L[q2]? = some (mit it m l.length (seen ++ [j]))) (hx : ev n f x = .pointer (some ⟨it, 0, none⟩)) (hj : l[j]? = some (k, v))
    (h : OW P r n all KK' rest (upd f d (.tuple #[kv k, vv v])) ds w) : OW P r n all KK' (⟨some d, .entry x, T, pos, af, none⟩ :: rest) f ds w := by
  have hb := hs.ob hq
  have hr := hs.ob hq2
  have e1 : (seen ++ [j]).toArray = seen.toArray.push ((⟨kv k, vv v, j⟩ : MapEntry).born) := by simp
  rw [e1] at hr
  have hm : (⟨kv k, vv v, j⟩ : MapEntry) ∈ (mkEs kv vv l 0).toArray.toList := by
    have h1 : (mkEs kv vv l 0)[j]? = some ⟨kv k, vv v, j⟩ := by rw [mkEs_get, hj]; simp
    simpa using List.mem_of_getElem? h1
  have hrun := run_entry_at (P := P) w it m l.length seen.toArray (mkEs kv vv l 0).toArray l.length ⟨kv k, vv v, j⟩ hr hb hm (by simpa using nodup_born l 0)
  exact ow_v (v := .tuple #[kv k, vv v]) (by simp only [execOp, hx, Sem.run_bind, hrun, Result.andThen_ok, Sem.run_pure]) rfl h
end
end Go.HL
