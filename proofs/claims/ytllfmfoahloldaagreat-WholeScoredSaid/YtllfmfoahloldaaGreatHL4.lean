/- The rules of the operations on memory, over a hidden heap; they hold of every program. -/
import Derived.Test.YtllfmfoahloldaaGreatHL3
import Derived.Shelf.Abstract
import Derived.Laws.CopyRow
import Derived.Laws.Cells
import Derived.Laws.MakeOwn
set_option linter.unusedVariables false
set_option linter.unusedSimpArgs false
set_option linter.unusedSectionVars false
namespace Go.HL
open Go.RowKit
/-- A block whose cells are known. -/
def blk (b : Nat) (T : TypeId) (cs : List Value) : HP := fun h => h b = some (.cells cs.toArray T (0, 0))
/-- A block that is no cells. -/
def obj (b : Nat) (o : Obj) : HP := fun h => h b = some o
/-- A slice that nobody else writes: nil, or the head of a block. -/
def osl (T : TypeId) (sz : Nat) (oa : Option Addr) (n c : Nat) (xs : List Value) : HP := fun h =>
  xs.length = n * sz ∧ ((oa = none ∧ n = 0 ∧ c = 0) ∨
    ∃ g cur, oa = some ⟨g, 0, none⟩ ∧ h g = some (.cells cur T (0, 0)) ∧ n ≤ c ∧ c ≤ maxLen ∧ cur.size = c * sz ∧ cur.toList.take (n * sz) = xs)
/-- A slice that stays as it is. -/
def Rs (I : Im) (sz : Nat) (oa : Option Addr) (n c : Nat) (xs : List Value) : Prop :=
  xs.length = n * sz ∧ n ≤ c ∧ c ≤ maxLen ∧ (n = 0 ∨ ∃ g off cur T fr, oa = some ⟨g, off, none⟩ ∧ I.ph g = some (.cells cur T fr) ∧ ∀ j v, xs[j]? = some v → cur[off + j]? = some v)
/-- A block that stays as it is. -/
def Ib (I : Im) (b : Nat) (T : TypeId) (cs : List Value) : Prop := I.ph b = some (.cells cs.toArray T (0, 0))
theorem Rs.mono {I J : Im} {sz : Nat} {oa : Option Addr} {n c : Nat} {xs : List Value} (h : Rs I sz oa n c xs) (hle : Im.le I J) : Rs J sz oa n c xs := by
  refine ⟨h.1, h.2.1, h.2.2.1, h.2.2.2.imp id ?_⟩
  rintro ⟨g, off, cur, T, fr, h1, h2, h3⟩
  exact ⟨g, off, cur, T, fr, h1, hle.ph _ _ h2, h3⟩
theorem Ib.mono {I J : Im} {b : Nat} {T : TypeId} {cs : List Value} (h : Ib I b T cs) (hle : Im.le I J) : Ib J b T cs := hle.ph _ _ h
theorem Rs.nil (I : Im) (sz : Nat) (oa : Option Addr) : Rs I sz oa 0 0 [] := ⟨by simp, Nat.le_refl _, by unfold maxLen; omega, .inl rfl⟩
theorem Rs.some {I : Im} {sz : Nat} {oa : Option Addr} {n c : Nat} {xs : List Value} (h : Rs I sz oa n c xs) (hn : 0 < n) : oa.isSome = true := by
  rcases h.2.2.2 with h0 | ⟨g, off, cur, T, fr, h1, _⟩
  · omega
  · rw [h1]; rfl
theorem Rs.len {I : Im} {sz : Nat} {oa : Option Addr} {n c : Nat} {xs : List Value} (h : Rs I sz oa n c xs) : xs.length = n * sz := h.1
/-- The place of a cell behind a slice's head. -/
def ea (oa : Option Addr) (m : Nat) : Addr := (oa.getD ⟨0, 0, none⟩).add m
theorem add_none (b o m : Nat) : (⟨b, o, none⟩ : Addr).add m = ⟨b, o + m, none⟩ := by
  unfold Addr.add; split <;> simp_all
theorem add_add (a : Addr) (m k : Nat) : (a.add m).add k = a.add (m + k) := by
  unfold Addr.add
  by_cases hm : m = 0
  · subst hm; simp
  · by_cases hk : k = 0
    · subst hk; simp [hm]
    · have : ¬ (m + k = 0) := by omega
      simp [hm, hk, Nat.add_assoc]
theorem ea_add (oa : Option Addr) (m k : Nat) : (ea oa m).add k = ea oa (m + k) := add_add _ _ _
/-- The cells from a place on. -/
def CA (w : World) (a : Addr) (vs : List Value) : Prop := ∀ j v, vs[j]? = some v → w.cell? (a.add j) = some v
theorem CA_blk {w : World} {b off : Nat} {cs : List Value} {T : TypeId} {fr : Nat × Nat} {m : Nat} (h : w.heap[b]? = some (.cells cs.toArray T fr)) : CA w ⟨b, off, none⟩ ((cs.drop off).take m) := by
  intro j v hj
  rw [add_none]
  have : cs[off + j]? = some v := by
    rw [List.getElem?_take] at hj
    split at hj
    · rw [List.getElem?_drop] at hj; exact hj
    · cases hj
  simp [World.cell?, h, this]
theorem CA_Rs {I : Im} {l : List HP} {w : World} {sz : Nat} {oa : Option Addr} {n c : Nat} {xs : List Value} (hs : Sat I l w) (h : Rs I sz oa n c xs) (m k : Nat) : CA w (ea oa m) ((xs.drop m).take k) := by
  intro j v hj
  rw [ea_add]
  have hx : xs[m + j]? = some v := by
    rw [List.getElem?_take] at hj
    split at hj
    · rw [List.getElem?_drop] at hj; exact hj
    · cases hj
  rcases h.2.2.2 with h0 | ⟨g, off, cur, T, fr, h1, h2, h3⟩
  · subst h0
    have := h.1
    simp at this
    subst this
    simp at hx
  · subst h1
    have h4 := h3 _ _ hx
    have h5 := hs.imm _ _ h2
    simp only [ea, Option.getD_some, add_none]
    simp [World.cell?, h5, h4]
section
variable {P : Program} {r : Option Nat} {n : Nat} {K : KK} {f : FF} {ds : List Deferred} {w w' : World} {all : Array Oper} {rest : List Oper}
variable {T : TypeId} {pos : String} {af : Array Edge} {d : Nat} {I : Im} {l : List HP} {t : TypeId} {agg : Bool} {zero : List Value} {x y : Operand}
theorem run_loadVar_CA {a : Addr} {vs : List Value} (hT : TyC P t agg zero) (hc : CA w a vs) (hl : vs.length = zero.length) :
    (loadVar t a).run P w = .ok (bif agg then .agg vs.toArray else vs.headD undef) w := by
  simp only [loadVar, Sem.run_bind, hT.run_isAgg, Result.andThen_ok]
  cases agg with
  | true => simp [hT.run_sizeOf, ← hl, run_loadCells_list (w := w) (P := P) a vs hc]
  | false =>
    have h1 := hT.one rfl
    rw [h1] at hl
    match vs, hl with
    | [v], _ =>
      have := hc 0 v rfl
      rw [show a.add 0 = a from by simp [Addr.add]] at this
      simp [run_load, this]
theorem x_load {dd : Option Nat} {gg : Option (Nat × Bool)} {ρ : Operand → Value} {a : Addr} {vs : List Value} (hx : ρ x = .pointer (some a)) (hT : TyC P t agg zero) (hc : CA w a vs) (hl : vs.length = zero.length) :
    (execOp ρ ⟨dd, .load t x, T, pos, af, gg⟩).run P w = .ok (.value (bif agg then .agg vs.toArray else vs.headD undef)) w := by
  simp [execOp, hx, Instr.loadAt, Instr.sureAddr, run_loadVar_CA hT hc hl]
/-- A load out of a block of one's own. -/
theorem Sat.blk (hs : Sat I l w) {k b : Nat} {Tb : TypeId} {cs : List Value} (hk : l[k]? = some (HL.blk b Tb cs)) : w.heap[b]? = some (.cells cs.toArray Tb (0, 0)) := by
  obtain ⟨g, hg, hgg, _⟩ := hs.focus hk
  exact (hgg b _ hg).1
theorem oL {k b off : Nat} {Tb : TypeId} {cs vs : List Value} {v : Value} (hs : Sat I l w) (hk : l[k]? = some (blk b Tb cs)) (hx : ev n f x = .pointer (some ⟨b, off, none⟩))
    (hT : TyC P t agg zero) (hv : (cs.drop off).take zero.length = vs) (hl : vs.length = zero.length) (hvv : (bif agg then .agg vs.toArray else vs.headD undef) = v)
    (h : OW P r n all K rest (upd f d v) ds w) : OW P r n all K (⟨some d, .load t x, T, pos, af, none⟩ :: rest) f ds w := by
  subst hv; subst hvv
  exact oV (x_load hx hT (CA_blk (hs.blk hk)) hl) rfl h
theorem ow_loadI {b off : Nat} {Tb : TypeId} {cs vs : List Value} {v : Value} (hs : Sat I l w) (hI : Ib I b Tb cs) (hx : ev n f x = .pointer (some ⟨b, off, none⟩))
    (hT : TyC P t agg zero) (hv : (cs.drop off).take zero.length = vs) (hl : vs.length = zero.length) (hvv : (bif agg then .agg vs.toArray else vs.headD undef) = v)
    (h : OW P r n all K rest (upd f d v) ds w) : OW P r n all K (⟨some d, .load t x, T, pos, af, none⟩ :: rest) f ds w := by
  subst hv; subst hvv
  exact oV (x_load hx hT (CA_blk (hs.imm _ _ hI)) hl) rfl h
theorem oLR {sz : Nat} {oa : Option Addr} {m c p : Nat} {xs vs : List Value} {v : Value} (hs : Sat I l w) (hR : Rs I sz oa m c xs) (hx : ev n f x = .pointer (some (ea oa p)))
    (hT : TyC P t agg zero) (hv : (xs.drop p).take zero.length = vs) (hl : vs.length = zero.length) (hvv : (bif agg then .agg vs.toArray else vs.headD undef) = v)
    (h : OW P r n all K rest (upd f d v) ds w) : OW P r n all K (⟨some d, .load t x, T, pos, af, none⟩ :: rest) f ds w := by
  subst hv; subst hvv
  exact oV (x_load hx hT (CA_Rs hs hR p zero.length) hl) rfl h
theorem osl_CA {k : Nat} {Tb : TypeId} {sz : Nat} {oa : Option Addr} {m c : Nat} {xs : List Value} (hs : Sat I l w) (hk : l[k]? = some (osl Tb sz oa m c xs)) (p q : Nat) : CA w (ea oa p) ((xs.drop p).take q) := by
  obtain ⟨g, ⟨hlen, hg⟩, hgg, _⟩ := hs.focus hk
  intro j v hj
  rw [ea_add]
  have hx : xs[p + j]? = some v := by
    rw [List.getElem?_take] at hj
    split at hj
    · rw [List.getElem?_drop] at hj; exact hj
    · cases hj
  rcases hg with ⟨h0, h1, h2⟩ | ⟨b, cur, h1, h2, h3, h4, h5, h6⟩
  · subst h1
    simp at hlen
    subst hlen
    simp at hx
  · subst h1
    have hc : cur[p + j]? = some v := by
      rw [← h6, List.getElem?_take] at hx
      split at hx
      · simpa using hx
      · cases hx
    have := (hgg b _ h2).1
    simp only [ea, Option.getD_some, add_none]
    simp [World.cell?, this, hc]
theorem ow_loadO {k : Nat} {Tb : TypeId} {sz : Nat} {oa : Option Addr} {m c p : Nat} {xs vs : List Value} {v : Value} (hs : Sat I l w) (hk : l[k]? = some (osl Tb sz oa m c xs)) (hx : ev n f x = .pointer (some (ea oa p)))
    (hT : TyC P t agg zero) (hv : (xs.drop p).take zero.length = vs) (hl : vs.length = zero.length) (hvv : (bif agg then .agg vs.toArray else vs.headD undef) = v)
    (h : OW P r n all K rest (upd f d v) ds w) : OW P r n all K (⟨some d, .load t x, T, pos, af, none⟩ :: rest) f ds w := by
  subst hv; subst hvv
  exact oV (x_load hx hT (osl_CA hs hk p zero.length) hl) rfl h
/-! ### Addresses -/
structure FldT (P : Program) (t : TypeId) (i off : Nat) : Prop where
  ex : (match P.underlying t with
    | some (.struct fs) => match fs[i]? with
      | some fd => fd.offset == off && (match P.info? fd.type with | some j => j.size != 0 | none => false)
      | none => false
    | _ => false) = true
theorem run_fieldAt {i off : Nat} {a : Addr} (h : FldT P t i off) : (Instr.fieldAt t (.pointer (some a)) i).run P w = .ok (.pointer (some (a.add off))) w := by
  have h0 := h.ex
  split at h0
  · rename_i fs hu
    split at h0
    · rename_i fd hf
      simp only [Bool.and_eq_true, beq_iff_eq] at h0
      obtain ⟨h1, h2⟩ := h0
      split at h2
      · rename_i j hj
        have h3 : (sizeOf fd.type).run P w = .ok j.size w := by simp [sizeOf, run_typeInfo w hj]
        have h4 : j.size ≠ 0 := by simpa using h2
        simp [Instr.fieldAt, run_underlying hu, hf, Instr.sureAddr, fieldPlace, h3, h4, h1]
      · cases h2
    · cases h0
  · cases h0
theorem oF {i off b o : Nat} (hF : FldT P t i off) (hx : ev n f x = .pointer (some ⟨b, o, none⟩)) (h : OW P r n all K rest (upd f d (.pointer (some ⟨b, o + off, none⟩))) ds w) :
    OW P r n all K (⟨some d, .fieldAddr t x i, T, pos, af, none⟩ :: rest) f ds w := by
  rw [← add_none] at h
  exact oV (by simp only [execOp, hx, Sem.run_bind, run_fieldAt hF, Result.andThen_ok, Sem.run_pure]) rfl h
theorem ow_fieldE {i off p : Nat} {oa : Option Addr} (hF : FldT P t i off) (hx : ev n f x = .pointer (some (ea oa p))) (h : OW P r n all K rest (upd f d (.pointer (some (ea oa (p + off))))) ds w) :
    OW P r n all K (⟨some d, .fieldAddr t x i, T, pos, af, none⟩ :: rest) f ds w := by
  rw [← ea_add] at h
  exact oV (by simp only [execOp, hx, Sem.run_bind, run_fieldAt hF, Result.andThen_ok, Sem.run_pure]) rfl h
theorem oI {e : TypeId} {oa : Option Addr} {m c : Nat} {i : Int} {k : IntKind} (hu : SliceT P t e) (hT : TyC P e agg zero) (hx : ev n f x = .slice oa m c) (hy : ev n f y = .int k i)
    (hi0 : 0 ≤ i) (hi : i < (m : Int)) (hso : oa.isSome = true) (h : OW P r n all K rest (upd f d (.pointer (some (ea oa (i.toNat * zero.length))))) ds w) :
    OW P r n all K (⟨some d, .indexAddr t x y, T, pos, af, none⟩ :: rest) f ds w := by
  obtain ⟨a, rfl⟩ := Option.isSome_iff_exists.1 hso
  refine oV (v := .pointer (some (ea (some a) (i.toNat * zero.length)))) ?_ rfl h
  have hc : 0 ≤ i ∧ i < (m : Int) := ⟨hi0, hi⟩
  simp [execOp, hx, hy, Instr.indexAt, asIntOf, run_underlying hu, hc, hT.run_sizeOf, ea]
/-- An array's length and its elements' type. -/
def ArrT (P : Program) (t : TypeId) (len : Nat) (e : TypeId) : Prop := P.underlying t = some (.array len e)
theorem ow_indexA {e : TypeId} {b o len : Nat} {i : Int} {k : IntKind} (hu : ArrT P t len e) (hT : TyC P e agg zero) (hx : ev n f x = .pointer (some ⟨b, o, none⟩)) (hy : ev n f y = .int k i)
    (hi0 : 0 ≤ i) (hi : i < (len : Int)) (h : OW P r n all K rest (upd f d (.pointer (some ⟨b, o + i.toNat * zero.length, none⟩))) ds w) :
    OW P r n all K (⟨some d, .indexAddr t x y, T, pos, af, none⟩ :: rest) f ds w := by
  rw [← add_none] at h
  refine oV (v := .pointer (some ((⟨b, o, none⟩ : Addr).add (i.toNat * zero.length)))) ?_ rfl h
  have hc : 0 ≤ i ∧ i < (len : Int) := ⟨hi0, hi⟩
  simp [execOp, hx, hy, Instr.indexAt, asIntOf, run_underlying hu, hc, hT.run_sizeOf, Instr.sureAddr]
theorem ow_indexAE {e : TypeId} {p len : Nat} {oa : Option Addr} {i : Int} {k : IntKind} (hu : ArrT P t len e) (hT : TyC P e agg zero) (hx : ev n f x = .pointer (some (ea oa p))) (hy : ev n f y = .int k i)
    (hi0 : 0 ≤ i) (hi : i < (len : Int)) (h : OW P r n all K rest (upd f d (.pointer (some (ea oa (p + i.toNat * zero.length))))) ds w) :
    OW P r n all K (⟨some d, .indexAddr t x y, T, pos, af, none⟩ :: rest) f ds w := by
  rw [← ea_add] at h
  refine oV (v := .pointer (some ((ea oa p).add (i.toNat * zero.length)))) ?_ rfl h
  have hc : 0 ≤ i ∧ i < (len : Int) := ⟨hi0, hi⟩
  simp [execOp, hx, hy, Instr.indexAt, asIntOf, run_underlying hu, hc, hT.run_sizeOf, Instr.sureAddr]
/-! ### New blocks -/
theorem cells_zero (agg : Bool) (zero : List Value) (h1 : agg = false → zero.length = 1) (h2 : agg = false → ∀ v ∈ zero, v.oneCell' = true) : (bif agg then Value.agg zero.toArray else zero.headD undef).cells = zero.toArray := by
  cases agg with
  | true => rfl
  | false =>
    have := h1 rfl
    match zero, this, h2 rfl with
    | [v], _, h => have := h v (by simp); cases v <;> first | rfl | simp [Value.oneCell'] at this
theorem ow_alloc (hs : Sat I l w) (hT : TyC P t agg zero) (h2 : zero.all Value.oneCell' = true)
    (h : ∀ b w', Sat I (blk b t zero :: l) w' → OW P r n all K rest (upd f d (.pointer (some ⟨b, 0, none⟩))) ds w') : OW P r n all K (⟨some d, .alloc t, T, pos, af, none⟩ :: rest) f ds w := by
  refine oV (w' := w.alloc (.cells zero.toArray t)) (v := .pointer (some ⟨w.heap.size, 0, none⟩)) ?_ rfl (h _ _ (hs.push _ _ (by simp [blk])))
  have := cells_zero agg zero hT.one (fun _ v hv => List.all_eq_true.1 h2 v hv)
  rw [List.headD_eq_head?_getD] at this
  simp [execOp, Instr.alloc, hT.run_zero, newVar, newRow, this]
theorem oB {v : Value} {cs : List Value} (hs : Sat I l w) (hx : ev n f x = v) (hc : v.cells = cs.toArray)
    (h : ∀ b w', Sat I (blk b t cs :: l) w' → OW P r n all K rest (upd f d (.pointer (some ⟨b, 0, none⟩))) ds w') : OW P r n all K (⟨some d, .box t x, T, pos, af, none⟩ :: rest) f ds w := by
  refine oV (w' := w.alloc (.cells cs.toArray t)) (v := .pointer (some ⟨w.heap.size, 0, none⟩)) ?_ rfl (h _ _ (hs.push _ _ (by simp [blk])))
  simp [execOp, Instr.box, hx, newVar, newRow, hc]
/-! ### Stores -/
theorem run_storeVar_at {b o : Nat} {Tb : TypeId} {cur : Array Value} {v : Value} {vs : List Value} (hT : TyC P t agg zero) (hb : w.heap[b]? = some (.cells cur Tb (0, 0)))
    (hvc : v.cells = vs.toArray) (hl : vs.length = zero.length) (hin : o + vs.length ≤ cur.size) (h1 : vs.all Value.oneCell' = true) :
    (storeVar t ⟨b, o, none⟩ v).run P w = .ok () (w.setRow b (cur.toList.take o ++ vs ++ cur.toList.drop (o + vs.length)).toArray) := by
  have := run_storeCells_at (P := P) b o Tb vs 0 cur w hb (by simpa using hin) (fun v hv => List.all_eq_true.1 h1 v hv)
  simp [storeVar, hT.run_sizeOf, hvc, hl] at this ⊢
  simpa [hl] using this
theorem x_store {dd : Option Nat} {gg : Option (Nat × Bool)} {ρ : Operand → Value} {b o : Nat} {Tb : TypeId} {cur : Array Value} {v : Value} {vs : List Value} (hx : ρ x = .pointer (some ⟨b, o, none⟩)) (hy : ρ y = v)
    (hT : TyC P t agg zero) (hb : w.heap[b]? = some (.cells cur Tb (0, 0))) (hvc : v.cells = vs.toArray) (hl : vs.length = zero.length) (hin : o + vs.length ≤ cur.size) (h1 : vs.all Value.oneCell' = true) :
    (execOp ρ ⟨dd, .store t x y, T, pos, af, gg⟩).run P w = .ok .skip (w.setRow b (cur.toList.take o ++ vs ++ cur.toList.drop (o + vs.length)).toArray) := by
  simp [execOp, hx, hy, Instr.storeAt, Instr.sureAddr, run_storeVar_at hT hb hvc hl hin h1]
theorem oS {k b o : Nat} {Tb : TypeId} {cs cs' vs : List Value} {v : Value} (hs : Sat I l w) (hk : l[k]? = some (blk b Tb cs)) (hx : ev n f x = .pointer (some ⟨b, o, none⟩)) (hy : ev n f y = v)
    (hT : TyC P t agg zero) (hvc : v.cells = vs.toArray) (hl : vs.length = zero.length) (hin : o + vs.length ≤ cs.length) (h1 : vs.all Value.oneCell' = true)
    (hc : cs.take o ++ vs ++ cs.drop (o + vs.length) = cs')
    (h : ∀ w', Sat I (l.set k (blk b Tb cs')) w' → OW P r n all K rest f ds w') : OW P r n all K (⟨none, .store t x y, T, pos, af, none⟩ :: rest) f ds w := by
  have hb := hs.blk hk
  refine ow_s (x_store hx hy hT hb hvc hl (by simpa using hin) h1) rfl (h _ ?_)
  obtain ⟨g, hg, hgg, hclose⟩ := hs.focus hk
  refine hclose _ (fun b' => if b' = b then some (.cells cs'.toArray Tb (0, 0)) else none) _ (by simp [HL.blk]) rfl rfl ⟨rfl, Nat.le_refl _⟩ ?_ ?_ ?_
  · intro b' o' e
    split at e
    · rename_i hb'
      subst hb'
      cases e
      have := setRow_heap w b' cs.toArray (cs.take o ++ vs ++ cs.drop (o + vs.length)).toArray Tb (0, 0) hb
      rw [hc] at this
      simp only [List.toList_toArray, hc] at this ⊢
      exact this
    · cases e
  · intro b' hb'
    split at hb'
    · rename_i e; subst e; exact .inl (by rw [show g b' = _ from hg]; rfl)
    · cases hb'
  · intro b' hlt hn
    refine setRow_other _ _ _ _ fun e => ?_
    subst e
    rw [show g b' = _ from hg] at hn
    cases hn
/-- A store into a slice of one's own. -/
theorem ow_storeO {k p : Nat} {Tb : TypeId} {sz : Nat} {oa : Option Addr} {m c : Nat} {xs xs' vs : List Value} {v : Value} (hs : Sat I l w) (hk : l[k]? = some (osl Tb sz oa m c xs))
    (hx : ev n f x = .pointer (some (ea oa p))) (hy : ev n f y = v)
    (hT : TyC P t agg zero) (hvc : v.cells = vs.toArray) (hl : vs.length = zero.length) (hin : p + vs.length ≤ xs.length) (h0 : 0 < vs.length) (h1 : vs.all Value.oneCell' = true)
    (hc : xs.take p ++ vs ++ xs.drop (p + vs.length) = xs')
    (h : ∀ w', Sat I (l.set k (osl Tb sz oa m c xs')) w' → OW P r n all K rest f ds w') : OW P r n all K (⟨none, .store t x y, T, pos, af, none⟩ :: rest) f ds w := by
  obtain ⟨g, ⟨hlen, hg⟩, hgg, hclose⟩ := hs.focus hk
  rcases hg with ⟨e0, e1, e2⟩ | ⟨b, cur, e1, e2, e3, e4, e5, e6⟩
  · subst e1
    simp at hlen
    subst hlen
    simp at hin
    obtain ⟨_, rfl⟩ := hin
    simp at h0
  · subst e1
    have hb := (hgg b _ e2).1
    have hle : xs.length ≤ cur.size := by rw [← e6]; simp; omega
    simp only [ea, Option.getD_some, add_none, Nat.zero_add] at hx
    refine ow_s (x_store hx hy hT hb hvc hl (by omega) h1) rfl (h _ ?_)
    refine hclose _ (fun b' => if b' = b then some (.cells (cur.toList.take p ++ vs ++ cur.toList.drop (p + vs.length)).toArray Tb (0, 0)) else none) _ ?_ rfl rfl ⟨rfl, Nat.le_refl _⟩ ?_ ?_ ?_
    · refine ⟨?_, .inr ⟨b, (cur.toList.take p ++ vs ++ cur.toList.drop (p + vs.length)).toArray, rfl, if_pos rfl, e3, e4, ?_, ?_⟩⟩
      · rw [← hc, ← hlen]; simp only [List.length_append, List.length_take, List.length_drop]; omega
      · simp; omega
      · rw [← hc, ← e6]
        simp only [List.toList_toArray]
        have hk1 : xs.length = m * sz := hlen
        rw [List.take_append, List.take_append]
        simp only [List.length_take, List.length_append, Array.length_toList, List.take_take, List.drop_take]
        have a1 : min p cur.size = p := by omega
        rw [a1]
        have a2 : min (m * sz) p = p := by omega
        have a3 : min p (m * sz) = p := by omega
        rw [a2, a3]
        congr 1
        congr 1
        exact List.take_of_length_le (by omega)
    · intro b' o' e
      split at e
      · rename_i hb'
        subst hb'
        cases e
        exact setRow_heap w b' cur _ Tb (0, 0) hb
      · cases e
    · intro b' hb'
      split at hb'
      · rename_i e; subst e; exact .inl (by rw [e2]; rfl)
      · cases hb'
    · intro b' hlt hn
      refine setRow_other _ _ _ _ fun e => ?_
      subst e
      rw [e2] at hn
      cases hn
end
end Go.HL
