/- Maps that are one's own; they hold of every program. -/
import Derived.Test.YtllfmfoahloldaaHL10
set_option linter.unusedVariables false
set_option linter.unusedSimpArgs false
set_option linter.unusedSectionVars false
namespace Go.HL
open Go.RowKit
section
variable {K V : Type} [DecidableEq K]
def mkEs (kv : K → Value) (vv : V → Value) (l : List (K × V)) (i : Nat) : List MapEntry := (l.zipIdx i).map fun x => ⟨kv x.1.1, vv x.1.2, x.2⟩
theorem mkEs_len (kv : K → Value) (vv : V → Value) (l : List (K × V)) (i : Nat) : (mkEs kv vv l i).length = l.length := by simp [mkEs]
theorem mkEs_cons (kv : K → Value) (vv : V → Value) (x : K × V) (l : List (K × V)) (i : Nat) : mkEs kv vv (x :: l) i = ⟨kv x.1, vv x.2, i⟩ :: mkEs kv vv l (i + 1) := by simp [mkEs]
theorem mkEs_app (kv : K → Value) (vv : V → Value) (l m : List (K × V)) (i : Nat) : mkEs kv vv (l ++ m) i = mkEs kv vv l i ++ mkEs kv vv m (i + l.length) := by
  simp [mkEs, List.zipIdx_append]
def findM : List (K × V) → K → Nat → Option (Nat × V)
  | [], _, _ => none
  | x :: l, k, i => if k = x.1 then some (i, x.2) else findM l k (i + 1)
def getM (l : List (K × V)) (k : K) (z : V) : V := match findM l k 0 with | some x => x.2 | none => z
/-- Keys that are read by equality. -/
structure KeyT (P : Program) (kt : TypeId) (kv : K → Value) : Prop where
  chk : ∀ e a w, (Instr.checkKey e 10000 kt (kv a)).run P w = .ok () w
  bits : ∀ a, Instr.sameBits 10000 (kv a) (kv a) = true
  find : ∀ (V : Type) (vv : V → Value) (l : List (K × V)) (k : K) (w : World), (Instr.findKey kt (kv k) (mkEs kv vv l 0)).run P w = .ok ((findM l k 0).map fun x => (x.1, vv x.2)) w
theorem KeyT.struct {P : Program} {kt : TypeId} {kv : K → Value} {d : TypeDesc} (hu : P.underlying kt = some d) (hnow : ∀ a b, Instr.sameNow d (kv a) (kv b) = none)
    (heq : ∀ a b w, (Op.equal kt (kv a) (kv b)).run P w = .ok (decide (a = b)) w) (chk : ∀ e a w, (Instr.checkKey e 10000 kt (kv a)).run P w = .ok () w) (bits : ∀ a, Instr.sameBits 10000 (kv a) (kv a) = true) : KeyT P kt kv := by
  refine ⟨chk, bits, fun V vv l k w => ?_⟩
  have ask : ∀ (l : List (K × V)) (i : Nat), (Instr.findAsking kt (kv k) (mkEs kv vv l i) i).run P w = .ok ((findM l k i).map fun x => (x.1, vv x.2)) w := by
    intro l
    induction l with
    | nil => intro i; rfl
    | cons x l ih =>
      intro i
      rw [mkEs_cons]
      unfold Instr.findAsking findM
      simp only [Sem.run_bind, heq, Result.andThen_ok]
      by_cases h : k = x.1
      · simp [h]
      · simp [h, ih (i + 1)]
  cases l with
  | nil => simp [Instr.findKey, run_underlying hu, mkEs, Instr.findNow, findM]
  | cons x l =>
    have h1 : Instr.findNow d (kv k) (mkEs kv vv (x :: l) 0) 0 = none := by
      rw [mkEs_cons]; unfold Instr.findNow; simp [hnow]
    simp only [Instr.findKey, Sem.run_bind, run_underlying hu, Result.andThen_ok, h1]
    exact ask _ 0
/-- A map of one's own. -/
def mp (r : Nat) (kv : K → Value) (vv : V → Value) (l : List (K × V)) : HP := ob r (.map (mkEs kv vv l 0).toArray l.length)
theorem findM_at : ∀ {l : List (K × V)} {k : K} {i j : Nat} {v : V}, findM l k i = some (j, v) → i ≤ j ∧ l[j - i]? = some (k, v)
  | [], _, _, _, _, h => by cases h
  | x :: l, k, i, j, v, h => by
    unfold findM at h
    split at h
    · rename_i e
      cases h
      obtain ⟨a, b⟩ := x
      simp at e
      subst e
      simp
    · obtain ⟨h1, h2⟩ := findM_at h
      refine ⟨by omega, ?_⟩
      rw [show j - i = (j - (i + 1)) + 1 by omega]
      simpa using h2
variable {P : Program} {r : Option Nat} {n : Nat} {KK' : KK} {f : FF} {ds : List Deferred} {w w' : World} {all : Array Oper} {rest : List Oper}
variable {T : TypeId} {pos : String} {af : Array Edge} {d : Nat} {I : Im} {L : List HP} {t kt et : TypeId} {x y z : Operand} {kv : K → Value} {vv : V → Value} {l : List (K × V)} {m q : Nat}
theorem ow_makeMap (hu : P.underlying t = some (.map kt et)) (hs : Sat I L w)
    (h : ∀ m w', Sat I (mp m kv vv ([] : List (K × V)) :: L) w' → OW P r n all KK' rest (upd f d (.map (some m))) ds w') : OW P r n all KK' (⟨some d, .makeMap t none, T, pos, af, none⟩ :: rest) f ds w := by
  refine ow_v (w' := w.alloc (.map #[] 0)) (v := .map (some w.heap.size)) ?_ rfl (h _ _ (hs.push _ _ (by simp [mp, HL.ob, mkEs])))
  simp [execOp, Instr.makeMap, run_underlying hu]
theorem ow_lookup {k : K} {zv : V} {v : Value} (hu : P.underlying t = some (.map kt et)) (hk : KeyT P kt kv) (hz : (zeroValue et).run P w = .ok (vv zv) w) (hs : Sat I L w) (hq : L[q]? = some (mp m kv vv l)) (hx : ev n f x = .map (some m)) (hy : ev n f y = kv k)
    (hv : vv (getM l k zv) = v) (h : OW P r n all KK' rest (upd f d v) ds w) : OW P r n all KK' (⟨some d, .lookup t x y false, T, pos, af, none⟩ :: rest) f ds w := by
  refine ow_v (v := v) ?_ rfl h
  have hb := hs.ob hq
  have hg : (getObj m).run P w = .ok (.map (mkEs kv vv l 0).toArray l.length) w := by simp [getObj, Sem.run, hb]
  subst hv
  simp only [execOp, hx, hy, Instr.lookup, Sem.run_bind, run_underlying hu, Result.andThen_ok, hg, Sem.run_pure, hk.chk, List.toList_toArray, hk.find]
  unfold getM
  cases findM l k 0 with
  | none => simp [hz]
  | some p => simp
theorem mkEs_modify (kv : K → Value) (vv : V → Value) (v : V) : ∀ (l : List (K × V)) (i0 j : Nat), (mkEs kv vv l i0).modify j (fun e => { e with val := vv v }) = mkEs kv vv (l.modify j fun x => (x.1, v)) i0
  | [], i0, j => by simp [mkEs]
  | x :: l, i0, 0 => by simp [mkEs_cons]
  | x :: l, i0, j + 1 => by simp [mkEs_cons, mkEs_modify kv vv v l (i0 + 1) j]
theorem mkEs_same (kv : K → Value) (vv : V → Value) (k : K) : ∀ (l : List (K × V)) (i0 j : Nat) (v : V), l[j]? = some (k, v) → (mkEs kv vv l i0).modify j (fun e => { e with key := kv k }) = mkEs kv vv l i0
  | [], i0, j, v, h => by simp at h
  | x :: l, i0, 0, v, h => by simp at h; subst h; simp [mkEs_cons]
  | x :: l, i0, j + 1, v, h => by simp [mkEs_cons, mkEs_same kv vv k l (i0 + 1) j v (by simpa using h)]
theorem mkEs_get (kv : K → Value) (vv : V → Value) : ∀ (l : List (K × V)) (i0 j : Nat), (mkEs kv vv l i0)[j]? = (l[j]?).map fun x => ⟨kv x.1, vv x.2, i0 + j⟩
  | [], i0, j => by simp [mkEs]
  | x :: l, i0, 0 => by simp [mkEs_cons]
  | x :: l, i0, j + 1 => by
    simp only [mkEs_cons, List.getElem?_cons_succ, mkEs_get kv vv l (i0 + 1) j]
    congr 1; funext y; congr 1; omega
theorem mkEs_born (kv : K → Value) (vv : V → Value) : ∀ (l : List (K × V)) (i0 j : Nat), j < l.length → (mkEs kv vv l i0).findIdx? (fun e => (e.born : Int) == ((i0 + j : Nat) : Int)) = some j
  | [], i0, j, h => by simp at h
  | x :: l, i0, 0, h => by simp [mkEs_cons, List.findIdx?_cons]
  | x :: l, i0, j + 1, h => by
    have := mkEs_born kv vv l (i0 + 1) j (by simpa using h)
    rw [mkEs_cons, List.findIdx?_cons]
    have e : ((i0 : Nat) : Int) == ((i0 + (j + 1) : Nat) : Int) ↔ False := by simp; omega
    simp only [beq_iff_eq] at e ⊢
    rw [if_neg (by omega), show i0 + (j + 1) = i0 + 1 + j by omega, this]
    simp
def entM (l : List (K × V)) (k : K) (zv : V) : List (K × V) × V × Nat := match findM l k 0 with | some x => (l, x.2, x.1) | none => (l ++ [(k, zv)], zv, l.length)
theorem ow_mapEntry {k : K} {zv : V} {v : Value} (hu : P.underlying t = some (.map kt et)) (hk : KeyT P kt kv) (hz : ∀ w, (zeroValue et).run P w = .ok (vv zv) w) (hs : Sat I L w) (hq : L[q]? = some (mp m kv vv l)) (hx : ev n f x = .map (some m)) (hy : ev n f y = kv k)
    (hv : Value.tuple #[vv (entM l k zv).2.1, .int .i64 ((entM l k zv).2.2 : Int)] = v) (h : ∀ w', Sat I (L.set q (mp m kv vv (entM l k zv).1)) w' → OW P r n all KK' rest (upd f d v) ds w') :
    OW P r n all KK' (⟨some d, .mapEntry t x y, T, pos, af, none⟩ :: rest) f ds w := by
  have hb := hs.ob hq
  have hg : (getObj m).run P w = .ok (.map (mkEs kv vv l 0).toArray l.length) w := by simp [getObj, Sem.run, hb]
  have hset : ∀ o, (setObj m o).run P w = .ok () (w.putObj m o) := fun o => by simp [setObj, Sem.run, hb, World.putObj]
  subst hv
  cases hf : findM l k 0 with
  | none =>
    have e1 : entM l k zv = (l ++ [(k, zv)], zv, l.length) := by unfold entM; rw [hf]
    rw [e1] at h
    have hsn := hs.putOb hq (.map ((mkEs kv vv l 0).toArray.push { key := kv k, val := vv zv, born := l.length }) (l.length + 1))
    have e2 : HL.ob m (.map ((mkEs kv vv l 0).toArray.push { key := kv k, val := vv zv, born := l.length }) (l.length + 1)) = mp m kv vv (l ++ [(k, zv)]) := by
      unfold mp
      rw [mkEs_app]
      simp [mkEs]
    rw [e2] at hsn
    refine ow_v (w' := w.putObj m (.map ((mkEs kv vv l 0).toArray.push { key := kv k, val := vv zv, born := l.length }) (l.length + 1))) ?_ rfl (h _ hsn)
    simp only [execOp, hx, hy, Instr.mapEntry, Sem.run_bind, run_underlying hu, Result.andThen_ok, hg, Sem.run_pure, hk.chk, List.toList_toArray, hk.find, hf, Option.map_none, hz, hset, goInt]
  | some p =>
    obtain ⟨i, v0⟩ := p
    have e1 : entM l k zv = (l, v0, i) := by unfold entM; rw [hf]
    rw [e1] at h
    obtain ⟨_, h2⟩ := findM_at hf
    rw [Nat.sub_zero] at h2
    have e3 : (mkEs kv vv l 0).toArray[i]? = some ⟨kv k, vv v0, i⟩ := by
      rw [List.getElem?_toArray, mkEs_get, h2]; simp
    have e4 : (mkEs kv vv l 0).toArray.modify i (fun e => { e with key := kv k }) = (mkEs kv vv l 0).toArray := by
      rw [List.modify_toArray, mkEs_same kv vv k l 0 i v0 h2]
    have hsn := hs.putOb hq (.map (mkEs kv vv l 0).toArray l.length)
    refine ow_v (w' := w.putObj m (.map (mkEs kv vv l 0).toArray l.length)) ?_ rfl (h _ hsn)
    simp only [execOp, hx, hy, Instr.mapEntry, Sem.run_bind, run_underlying hu, Result.andThen_ok, hg, Sem.run_pure, hk.chk, List.toList_toArray, hk.find, hf, Option.map_some, e3, Option.getD_some, Instr.keyThatStays, hk.bits, if_true, e4, hset, goInt]
theorem ow_entryStore {i : Nat} {xv : V} (hs : Sat I L w) (hq : L[q]? = some (mp m kv vv l)) (hx : ev n f x = .map (some m)) (hy : ev n f y = .int .i64 (i : Int)) (hz : ev n f z = vv xv) (hi : i < l.length)
    (h : ∀ w', Sat I (L.set q (mp m kv vv (l.modify i fun e => (e.1, xv)))) w' → OW P r n all KK' rest f ds w') : OW P r n all KK' (⟨none, .entryStore t x y z, T, pos, af, none⟩ :: rest) f ds w := by
  have hb := hs.ob hq
  have hg : (getObj m).run P w = .ok (.map (mkEs kv vv l 0).toArray l.length) w := by simp [getObj, Sem.run, hb]
  have hset : ∀ o, (setObj m o).run P w = .ok () (w.putObj m o) := fun o => by simp [setObj, Sem.run, hb, World.putObj]
  have hsn := hs.putOb hq (.map ((mkEs kv vv l 0).toArray.modify i fun e => { e with val := vv xv }) l.length)
  have e2 : HL.ob m (.map ((mkEs kv vv l 0).toArray.modify i fun e => { e with val := vv xv }) l.length) = mp m kv vv (l.modify i fun e => (e.1, xv)) := by
    unfold mp
    rw [List.modify_toArray, mkEs_modify]
    simp
  rw [e2] at hsn
  have e3 : (mkEs kv vv l 0).toArray.findIdx? (fun e => (e.born : Int) == (i : Int)) = some i := by
    have := mkEs_born kv vv l 0 i hi
    rw [Nat.zero_add] at this
    simpa using this
  refine ow_s (w' := w.putObj m (.map ((mkEs kv vv l 0).toArray.modify i fun e => { e with val := vv xv }) l.length)) ?_ rfl (h _ hsn)
  simp only [execOp, hx, hy, hz, Instr.entryStore, Sem.run_bind, Result.andThen_ok, hg, asInt, asIntOf, Sem.run_pure, e3, hset]
end
end Go.HL
