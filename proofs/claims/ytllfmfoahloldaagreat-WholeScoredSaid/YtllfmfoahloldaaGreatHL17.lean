/- Maps that are one's own, by numbers; entries may go; it holds of every program. -/
import Derived.Test.YtllfmfoahloldaaGreatHLM
set_option linter.unusedVariables false
set_option linter.unusedSimpArgs false
set_option linter.unusedSectionVars false
namespace Go.HL
open Go.RowKit
section
variable {V : Type}
def hasM (l : List (Int × V)) (k : Int) : Bool := (findM l k 0).isSome
def upM (l : List (Int × V)) (k : Int) (v : V) : List (Int × V) := match findM l k 0 with | some x => l.set x.1 (k, v) | none => l ++ [(k, v)]
def delM (l : List (Int × V)) (k : Int) : List (Int × V) := match findM l k 0 with | some x => l.eraseIdx x.1 | none => l
/-- The entries of a map and the list that they represent. -/
def MR (vv : V → Value) (l : List (Int × V)) (es : List MapEntry) : Prop := es.map (fun e => (e.key, e.val)) = l.map fun x => (Value.int .i64 x.1, vv x.2)
def mq (m : Nat) (vv : V → Value) (l : List (Int × V)) : HP := fun g => ∃ es nx, g m = some (.map es.toArray nx) ∧ MR vv l es
variable {vv : V → Value}
theorem MR.find {k : Int} : ∀ {l : List (Int × V)} {es : List MapEntry} (i : Nat), MR vv l es → Instr.findNow (.int .i64) (.int .i64 k) es i = some ((findM l k i).map fun x => (x.1, vv x.2))
  | [], [], i, _ => rfl
  | x :: l, e :: es, i, h => by
    simp only [MR, List.map_cons, List.cons.injEq, Prod.mk.injEq] at h
    obtain ⟨⟨h1, h2⟩, h3⟩ := h
    unfold Instr.findNow findM
    rw [h1]
    simp only [Instr.sameNow, if_true]
    by_cases hk : k = x.1
    · simp [hk, h2]
    · have hb : (k == x.1) = false := by simp [hk]
      rw [if_neg hk, hb]
      exact MR.find (i + 1) h3
  | [], _ :: _, _, h => by simp [MR] at h
  | _ :: _, [], _, h => by simp [MR] at h
theorem MR.len {l : List (Int × V)} {es : List MapEntry} (h : MR vv l es) : es.length = l.length := by have := congrArg List.length h; simpa using this
theorem findM_lt {l : List (Int × V)} {k : Int} {x : Nat × V} (h : findM l k 0 = some x) : x.1 < l.length ∧ l[x.1]? = some (k, x.2) := by
  obtain ⟨i, v⟩ := x
  obtain ⟨_, h2⟩ := findM_at h
  rw [Nat.sub_zero] at h2
  exact ⟨(List.getElem?_eq_some_iff.1 h2).1, h2⟩
theorem MR.modify {l : List (Int × V)} {es : List MapEntry} (h : MR vv l es) (i : Nat) (k : Int) (v : V) : MR vv (l.set i (k, v)) (es.modify i fun e => { e with key := .int .i64 k, val := vv v }) := by
  unfold MR at h ⊢
  apply List.ext_getElem?
  intro j
  have hj := congrArg (fun l => l[j]?) h
  simp only [List.getElem?_map, List.getElem?_modify, List.getElem?_set] at hj ⊢
  have hlen := MR.len h
  by_cases e : i = j
  · subst e
    by_cases hi : i < l.length
    · have : es[i]? = some (es[i]'(by omega)) := List.getElem?_eq_getElem (by omega)
      simp [this, hi]
    · have : es[i]? = none := List.getElem?_eq_none (by omega)
      simp [this, hi]
  · simp only [if_neg e]
    simpa using hj
theorem MR.erase {l : List (Int × V)} {es : List MapEntry} (h : MR vv l es) (i : Nat) : MR vv (l.eraseIdx i) (es.eraseIdx i) := by
  unfold MR at h ⊢
  apply List.ext_getElem?
  intro j
  have h1 := congrArg (fun l => l[j]?) h
  have h2 := congrArg (fun l => l[j + 1]?) h
  simp only [List.getElem?_map] at h1 h2
  simp only [List.getElem?_map, List.getElem?_eraseIdx]
  split
  · exact h1
  · exact h2
theorem MR.push {l : List (Int × V)} {es : List MapEntry} (h : MR vv l es) (k : Int) (v : V) (b : Nat) : MR vv (l ++ [(k, v)]) (es ++ [⟨.int .i64 k, vv v, b⟩]) := by
  unfold MR at h ⊢
  rw [List.map_append, List.map_append, h]; rfl
variable {P : Program} {r : Option Nat} {n : Nat} {KK' : KK} {f : FF} {ds : List Deferred} {w w' : World} {all : Array Oper} {rest : List Oper}
variable {T : TypeId} {pos : String} {af : Array Edge} {d : Nat} {I : Im} {L : List HP} {t kt et : TypeId} {x y z : Operand} {l : List (Int × V)} {m q : Nat}
theorem Sat.mq (hs : Sat I L w) (hq : L[q]? = some (HL.mq m vv l)) : ∃ es nx, w.heap[m]? = some (.map es.toArray nx) ∧ MR vv l es ∧
    ∀ (es' : List MapEntry) (nx' : Nat) (l' : List (Int × V)), MR vv l' es' → Sat I (L.set q (HL.mq m vv l')) (w.putObj m (.map es'.toArray nx')) := by
  obtain ⟨g, ⟨es, nx, hg, hr⟩, hgg, hclose⟩ := hs.focus hq
  have hb := (hgg m _ hg).1
  refine ⟨es, nx, hb, hr, fun es' nx' l' hr' => ?_⟩
  refine hclose _ (fun b' => if b' = m then some (.map es'.toArray nx') else none) _ ⟨es', nx', if_pos rfl, hr'⟩ rfl rfl ⟨rfl, Nat.le_refl _⟩ ?_ ?_ ?_
  · intro b' o2 e
    split at e
    · rename_i hb'
      subst hb'
      cases e
      exact World.putObj_heap_same (lt_of_heap hb)
    · cases e
  · intro b' hb'
    split at hb'
    · rename_i e; subst e; exact .inl (by rw [hg]; rfl)
    · cases hb'
  · intro b' hlt hn
    refine World.putObj_heap_other fun e => ?_
    subst e
    rw [hg] at hn
    cases hn
structure MapT (P : Program) (t kt et : TypeId) : Prop where
  m : P.underlying t = some (.map kt et)
  k : P.underlying kt = some (.int .i64)
theorem MapT.chk (h : MapT P t kt et) (e : Bool) (a : Int) (w : World) : (Instr.checkKey e 10000 kt (.int .i64 a)).run P w = .ok () w := by
  rw [show (10000 : Nat) = 9999 + 1 from rfl]
  unfold Instr.checkKey; simp [run_underlying h.k]
theorem MapT.find (h : MapT P t kt et) {es : List MapEntry} (hr : MR vv l es) (k : Int) (w : World) : (Instr.findKey kt (.int .i64 k) es).run P w = .ok ((findM l k 0).map fun x => (x.1, vv x.2)) w := by
  simp [Instr.findKey, run_underlying h.k, MR.find 0 hr]
theorem ow_makeMapQ (hu : MapT P t kt et) (hs : Sat I L w)
    (h : ∀ m w', Sat I (mq m vv ([] : List (Int × V)) :: L) w' → OW P r n all KK' rest (upd f d (.map (some m))) ds w') : OW P r n all KK' (⟨some d, .makeMap t none, T, pos, af, none⟩ :: rest) f ds w := by
  refine oV (w' := w.alloc (.map #[] 0)) (v := .map (some w.heap.size)) ?_ rfl (h _ _ (hs.push _ _ ⟨[], 0, by simp, rfl⟩))
  simp [execOp, Instr.makeMap, run_underlying hu.m]
theorem ow_lookupQ {k : Int} {zv : V} {v : Value} (hu : MapT P t kt et) (hz : ∀ w, (zeroValue et).run P w = .ok (vv zv) w) (hs : Sat I L w) (hq : L[q]? = some (mq m vv l)) (hx : ev n f x = .map (some m)) (hy : ev n f y = .int .i64 k)
    (hv : vv (getM l k zv) = v) (h : OW P r n all KK' rest (upd f d v) ds w) : OW P r n all KK' (⟨some d, .lookup t x y false, T, pos, af, none⟩ :: rest) f ds w := by
  refine oV (v := v) ?_ rfl h
  obtain ⟨es, nx, hb, hr, _⟩ := hs.mq hq
  have hg : (getObj m).run P w = .ok (.map es.toArray nx) w := by simp [getObj, Sem.run, hb]
  subst hv
  simp only [execOp, hx, hy, Instr.lookup, Sem.run_bind, run_underlying hu.m, Result.andThen_ok, hg, Sem.run_pure, hu.chk, List.toList_toArray, hu.find hr]
  unfold getM
  cases findM l k 0 with
  | none => simp [hz]
  | some p => simp
theorem ow_lookupQ2 {k : Int} {zv : V} {v : Value} (hu : MapT P t kt et) (hz : ∀ w, (zeroValue et).run P w = .ok (vv zv) w) (hs : Sat I L w) (hq : L[q]? = some (mq m vv l)) (hx : ev n f x = .map (some m)) (hy : ev n f y = .int .i64 k)
    (hv : .tuple #[vv (getM l k zv), .bool (hasM l k)] = v) (h : OW P r n all KK' rest (upd f d v) ds w) : OW P r n all KK' (⟨some d, .lookup t x y true, T, pos, af, none⟩ :: rest) f ds w := by
  refine oV (v := v) ?_ rfl h
  obtain ⟨es, nx, hb, hr, _⟩ := hs.mq hq
  have hg : (getObj m).run P w = .ok (.map es.toArray nx) w := by simp [getObj, Sem.run, hb]
  subst hv
  simp only [execOp, hx, hy, Instr.lookup, Sem.run_bind, run_underlying hu.m, Result.andThen_ok, hg, Sem.run_pure, hu.chk, List.toList_toArray, hu.find hr]
  unfold getM hasM
  cases findM l k 0 with
  | none => simp [hz]
  | some p => simp
theorem run_updQ {k : Int} {v : V} (hu : MapT P t kt et) (hs : Sat I L w) (hq : L[q]? = some (mq m vv l)) : ∃ w', (Instr.mapUpdate t (.map (some m)) (.int .i64 k) (vv v)).run P w = .ok () w' ∧ Sat I (L.set q (mq m vv (upM l k v))) w' := by
  obtain ⟨es, nx, hb, hr, hset⟩ := hs.mq hq
  have hg : (getObj m).run P w = .ok (.map es.toArray nx) w := by simp [getObj, Sem.run, hb]
  have hso : ∀ o, (setObj m o).run P w = .ok () (w.putObj m o) := fun o => by simp [setObj, Sem.run, hb, World.putObj]
  cases hf : findM l k 0 with
  | none =>
    refine ⟨w.putObj m (.map (es ++ [({ key := .int .i64 k, val := vv v, born := nx } : MapEntry)]).toArray (nx + 1)), ?_, ?_⟩
    · simp only [Instr.mapUpdate, Sem.run_bind, run_underlying hu.m, Result.andThen_ok, hg, Sem.run_pure, hu.chk, List.toList_toArray, hu.find hr, hf, Option.map_none, hso, List.push_toArray]
    · have : upM l k v = l ++ [(k, v)] := by unfold upM; rw [hf]
      rw [this]
      exact hset _ _ _ (hr.push k v nx)
  | some p =>
    obtain ⟨hlt, hget⟩ := findM_lt hf
    have hlen := hr.len
    have hkey : (es.toArray[p.1]?.map (·.key)).getD (.int .i64 k) = .int .i64 k := by
      have := congrArg (fun l => l[p.1]?) hr
      simp only [List.getElem?_map, hget] at this
      rw [List.getElem?_toArray]
      cases he : es[p.1]? with
      | none => rfl
      | some e => rw [he] at this; simp at this; simp [this.1]
    refine ⟨w.putObj m (.map (es.modify p.1 fun e => { e with key := .int .i64 k, val := vv v }).toArray nx), ?_, ?_⟩
    · have hst : ∀ w, (Instr.keyThatStays (.int .i64 k) (.int .i64 k)).run P w = .ok (.int .i64 k) w := fun w => by simp [Instr.keyThatStays, Instr.sameBits]
      simp only [Instr.mapUpdate, Sem.run_bind, run_underlying hu.m, Result.andThen_ok, hg, Sem.run_pure, hu.chk, List.toList_toArray, hu.find hr, hf, Option.map_some, hkey, hst, hso, List.modify_toArray]
    · have : upM l k v = l.set p.1 (k, v) := by unfold upM; rw [hf]
      rw [this]
      exact hset _ _ _ (hr.modify p.1 k v)
theorem ow_updQ {k : Int} {v : V} (hu : MapT P t kt et) (hs : Sat I L w) (hq : L[q]? = some (mq m vv l)) (hx : ev n f x = .map (some m)) (hy : ev n f y = .int .i64 k) (hz : ev n f z = vv v)
    (h : ∀ w', Sat I (L.set q (mq m vv (upM l k v))) w' → OW P r n all KK' rest f ds w') : OW P r n all KK' (⟨none, .mapUpdate t x y z, T, pos, af, none⟩ :: rest) f ds w := by
  obtain ⟨w', hrun, hs'⟩ := run_updQ (P := P) (t := t) (k := k) (v := v) hu hs hq
  exact ow_s (by simp only [execOp, hx, hy, hz, Sem.run_bind, hrun, Result.andThen_ok]; rfl) rfl (h _ hs')
theorem ow_insQ {k : Int} {v : V} (hu : MapT P t kt et) (hs : Sat I L w) (hq : L[q]? = some (mq m vv l)) (hx : ev n f x = .map (some m)) (hy : ev n f y = .int .i64 k) (hz : ev n f z = vv v)
    (h : ∀ w', Sat I (L.set q (mq m vv (upM l k v))) w' → OW P r n all KK' rest f ds w') : OW P r n all KK' (⟨none, .insert t x y z, T, pos, af, none⟩ :: rest) f ds w := by
  obtain ⟨w', hrun, hs'⟩ := run_updQ (P := P) (t := t) (k := k) (v := v) hu hs hq
  exact ow_s (by simp only [execOp, hx, hy, hz, Sem.run_bind, hrun, Result.andThen_ok]; rfl) rfl (h _ hs')
theorem ow_delQ {k : Int} {dd : Option Nat} (hu : MapT P t kt et) (hs : Sat I L w) (hq : L[q]? = some (mq m vv l)) (hx : ev n f x = .map (some m)) (hy : ev n f y = .int .i64 k)
    (h : ∀ w', Sat I (L.set q (mq m vv (delM l k))) w' → OW P r n all KK' rest (updO f dd (.tuple #[])) ds w') : OW P r n all KK' (⟨dd, .call ⟨.builtin .delete, #[x, y], #[t, kt]⟩, T, pos, af, none⟩ :: rest) f ds w := by
  obtain ⟨es, nx, hb, hr, hset⟩ := hs.mq hq
  have hg : (getObj m).run P w = .ok (.map es.toArray nx) w := by simp [getObj, Sem.run, hb]
  have hso : ∀ o, (setObj m o).run P w = .ok () (w.putObj m o) := fun o => by simp [setObj, Sem.run, hb, World.putObj]
  cases hf : findM l k 0 with
  | none =>
    refine ow_run (w' := w.putObj m (.map es.toArray nx)) (v := .tuple #[]) rfl rfl ?_ (h _ ?_)
    · simp [execOp, resolve, hx, hy, invoke, builtin, Builtin.delete_, run_underlying hu.m, hg, hu.chk, hu.find hr, hf, hso]
    · have : delM l k = l := by unfold delM; rw [hf]
      rw [this]; exact hset _ _ _ hr
  | some p =>
    obtain ⟨hlt, _⟩ := findM_lt hf
    have hlen := hr.len
    refine ow_run (w' := w.putObj m (.map (es.eraseIdx p.1).toArray nx)) (v := .tuple #[]) rfl rfl ?_ (h _ ?_)
    · have he : es.toArray.eraseIdxIfInBounds p.1 = (es.eraseIdx p.1).toArray := by
        simp [Array.eraseIdxIfInBounds, show p.1 < es.length by omega]
      simp [execOp, resolve, hx, hy, invoke, builtin, Builtin.delete_, run_underlying hu.m, hg, hu.chk, hu.find hr, hf, hso, he]
    · have : delM l k = l.eraseIdx p.1 := by unfold delM; rw [hf]
      rw [this]; exact hset _ _ _ (hr.erase p.1)
theorem ow_lenQ (hu : MapT P t kt et) (hs : Sat I L w) (hq : L[q]? = some (mq m vv l)) (hx : ev n f x = .map (some m)) (h : OW P r n all KK' rest (upd f d (.int .i64 (l.length : Int))) ds w) :
    OW P r n all KK' (⟨some d, .call ⟨.builtin .len, #[x], #[t]⟩, T, pos, af, none⟩ :: rest) f ds w := by
  obtain ⟨es, nx, hb, hr, _⟩ := hs.mq hq
  have hg : (getObj m).run P w = .ok (.map es.toArray nx) w := by simp [getObj, Sem.run, hb]
  refine oV (v := .int .i64 (l.length : Int)) ?_ rfl h
  simp [execOp, resolve, hx, invoke, builtin, Builtin.len_, run_underlying hu.m, hg, goInt, hr.len]
end
end Go.HL
