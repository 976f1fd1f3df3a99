/- Building, making, slicing, appending; calls, a function's entry and its return; they hold of every program. -/
import Derived.Test.YtllfmfoahloldaaGreatHL4
import Derived.Great.BuildSlice
set_option linter.unusedVariables false
set_option linter.unusedSimpArgs false
set_option linter.unusedSectionVars false
namespace Go.HL
open Go.RowKit
theorem le_mul_of_pos {a b : Nat} (h : 0 < a * b) : a ≤ a * b := Nat.le_mul_of_pos_right a (Nat.pos_of_ne_zero fun e => by rw [e] at h; simp at h)
def EvL (n : Nat) (f : FF) : List Operand → List Value → Prop
  | [], [] => True
  | x :: l, v :: m => ev n f x = v ∧ EvL n f l m
  | _, _ => False
theorem EvL.map : ∀ {n : Nat} {f : FF} {l : List Operand} {m : List Value}, EvL n f l m → l.map (ev n f) = m
  | _, _, [], [], _ => rfl
  | _, _, x :: l, v :: m, ⟨h, k⟩ => by rw [List.map_cons, h, EvL.map k]
  | _, _, [], _ :: _, h => h.elim
  | _, _, _ :: _, [], h => h.elim
def EvP (n : Nat) (f : FF) : List (Nat × Operand) → List (Nat × Value) → Prop
  | [], [] => True
  | x :: l, v :: m => x.1 = v.1 ∧ ev n f x.2 = v.2 ∧ EvP n f l m
  | _, _ => False
theorem EvP.map : ∀ {n : Nat} {f : FF} {l : List (Nat × Operand)} {m : List (Nat × Value)}, EvP n f l m → (l.map fun p => (p.1, ev n f p.2)) = m
  | _, _, [], [], _ => rfl
  | _, _, x :: l, v :: m, ⟨h0, h, k⟩ => by rw [List.map_cons, h0, h, EvP.map k]
  | _, _, [], _ :: _, h => h.elim
  | _, _, _ :: _, [], h => h.elim
/-- A struct's fields: where each lies, and of how many cells. -/
structure StrT (P : Program) (t : TypeId) (pl : List (Nat × Nat)) : Prop where
  ex : (match P.underlying t with
    | some (.struct fs) => fs.toList.map (fun fd => (fd.offset, (P.info? fd.type).map (·.size)))
    | _ => [(0, none)]) = pl.map fun x => (x.1, some x.2)
theorem run_mapM_list {P : Program} {w : World} {α β : Type} (g : α → Sem β) : ∀ (l : List α) (m : List β), (∀ (i : Nat) (x : α) (y : β), l[i]? = some x → m[i]? = some y → (g x).run P w = .ok y w) → l.length = m.length →
    (l.mapM g).run P w = .ok m w
  | [], [], _, _ => rfl
  | x :: l, y :: m, h, hl => by
    simp at hl
    simp [h 0 x y rfl rfl, run_mapM_list g l m (fun i x y hx hy => h (i + 1) x y hx hy) hl]
  | [], _ :: _, _, hl => by simp at hl
  | _ :: _, [], _, hl => by simp at hl
theorem StrT.run {P : Program} {t : TypeId} {pl : List (Nat × Nat)} (h : StrT P t pl) : ∃ fs, P.underlying t = some (.struct fs) ∧
    ∀ w, (fs.mapM fun fd : Field => (do pure (fd.offset, ← sizeOf fd.type) : Sem (Nat × Nat))).run P w = .ok pl.toArray w := by
  have h0 := h.ex
  split at h0
  · rename_i fs hu
    refine ⟨fs, hu, fun w => ?_⟩
    have hlen : fs.toList.length = pl.length := by have := congrArg List.length h0; simpa using this
    have h1 := run_mapM_list (P := P) (w := w) (fun fd : Field => (do pure (fd.offset, ← sizeOf fd.type) : Sem (Nat × Nat))) fs.toList pl (by
      intro i fd y hx hy
      have h2 : (fs.toList.map (fun fd => (fd.offset, (P.info? fd.type).map (·.size))))[i]? = (pl.map fun x => (x.1, some x.2))[i]? := by rw [h0]
      simp only [List.getElem?_map, hx, hy, Option.map_some, Option.some.injEq, Prod.mk.injEq] at h2
      obtain ⟨j, hj, hj2⟩ := Option.map_eq_some_iff.1 h2.2
      simp [sizeOf, run_typeInfo w hj, hj2, h2.1]) hlen
    rw [Array.mapM_eq_mapM_toList]
    simp only [Sem.run_map, h1, Result.andThen_ok]
  · cases pl <;> simp at h0
def fillL (place : Nat → Option (Nat × Nat)) : List Value → List (Nat × Value) → Option (List Value)
  | z, [] => some z
  | z, (i, v) :: rest => match place i with
    | none => none
    | some (off, size) => bif Nat.beq v.cells.toList.length size && Nat.ble (off + v.cells.toList.length) z.length then fillL place (z.take off ++ v.cells.toList ++ z.drop (off + v.cells.toList.length)) rest else none
theorem foldl_set : ∀ (cs z : List Value) (off : Nat), off + cs.length ≤ z.length →
    (cs.zipIdx 0).foldl (fun (a : Array Value) x => a.setIfInBounds (off + x.2) x.1) z.toArray = (z.take off ++ cs ++ z.drop (off + cs.length)).toArray := by
  have key : ∀ (cs z : List Value) (off j : Nat), off + j + cs.length ≤ z.length →
      (cs.zipIdx j).foldl (fun (a : Array Value) x => a.setIfInBounds (off + x.2) x.1) z.toArray = (z.take (off + j) ++ cs ++ z.drop (off + j + cs.length)).toArray := by
    intro cs
    induction cs with
    | nil => intro z off j _; simp
    | cons c cs ih =>
      intro z off j h
      simp only [List.length_cons] at h
      rw [List.zipIdx_cons, List.foldl_cons]
      have e1 : z.toArray.setIfInBounds (off + j) c = (z.set (off + j) c).toArray := by simp
      simp only [e1]
      rw [ih (z.set (off + j) c) off (j + 1) (by simp; omega)]
      congr 1
      have e2 : (z.set (off + j) c).take (off + (j + 1)) = z.take (off + j) ++ [c] := by
        rw [show off + (j + 1) = off + j + 1 by omega, List.take_succ_eq_append_getElem (by simp; omega), List.getElem_set_self]
        congr 1
        exact List.take_set_of_le (Nat.le_refl _)
      have e3 : (z.set (off + j) c).drop (off + (j + 1) + cs.length) = z.drop (off + j + (cs.length + 1)) := by
        rw [List.drop_set_of_lt (by omega)]
        congr 1; omega
      rw [e2, e3]
      simp [List.append_assoc]
  intro cs z off h
  have := key cs z off 0 (by omega)
  simpa using this
theorem fill_eq (place : Nat → Option (Nat × Nat)) : ∀ (vp : List (Nat × Value)) (z cs : List Value), fillL place z vp = some cs → Instr.fill place z.toArray vp = some cs.toArray
  | [], z, cs, h => by simp [fillL] at h; simp [Instr.fill, h]
  | (i, v) :: vp, z, cs, h => by
    unfold fillL at h
    unfold Instr.fill
    cases hp : place i with
    | none => rw [hp] at h; cases h
    | some p =>
      obtain ⟨off, size⟩ := p
      rw [hp] at h
      simp only at h ⊢
      cases hc : (Nat.beq v.cells.toList.length size && Nat.ble (off + v.cells.toList.length) z.length) with
      | false => rw [hc] at h; cases h
      | true =>
        rw [hc, cond_true] at h
        rw [Bool.and_eq_true] at hc
        have h1 : v.cells.size = size := by have := Nat.eq_of_beq_eq_true hc.1; simpa using this
        have h2 : off + v.cells.toList.length ≤ z.length := Nat.le_of_ble_eq_true hc.2
        have h3 : ¬ (v.cells.size ≠ size || off + v.cells.size > z.toArray.size) = true := by
          simp at h2 ⊢; omega
        rw [if_neg h3]
        have := foldl_set v.cells.toList z off h2
        have e : v.cells.zipIdx.foldl (fun cs x => cs.setIfInBounds (off + x.2) x.1) z.toArray = (z.take off ++ v.cells.toList ++ z.drop (off + v.cells.toList.length)).toArray := by
          rw [← this, ← Array.foldl_toList]
          simp
        rw [show (fun (cs : Array Value) (x : Value × Nat) => match x with | (c, j) => cs.setIfInBounds (off + j) c) = fun cs x => cs.setIfInBounds (off + x.2) x.1 from rfl, e]
        exact fill_eq place vp _ cs h
theorem range_zero (zero : List Value) (len : Nat) : (Array.range (len * zero.length)).map (zero.toArray[· % zero.toArray.size]!) = (List.replicate len zero).flatten.toArray := by
  have hflat : ∀ (a q : Nat), (List.replicate a zero).flatten[q]? = if q < a * zero.length then zero[q % zero.length]? else none := by
    intro a
    induction a with
    | zero => intro q; simp
    | succ a ih =>
      intro q
      rw [List.replicate_succ, List.flatten_cons, List.getElem?_append]
      by_cases hq : q < zero.length
      · rw [if_pos hq, if_pos (by rw [Nat.succ_mul]; omega), Nat.mod_eq_of_lt hq]
      · rw [if_neg hq, ih]
        by_cases h3 : q - zero.length < a * zero.length
        · rw [if_pos h3, if_pos (by rw [Nat.succ_mul]; omega)]
          congr 1
          rw [← Nat.mod_eq_sub_mod (by omega)]
        · rw [if_neg h3, if_neg (by rw [Nat.succ_mul]; omega)]
  apply Array.ext'
  rw [List.toList_toArray]
  apply List.ext_getElem?
  intro q
  rw [hflat]
  by_cases hq : q < len * zero.length
  · have hz : 0 < zero.length := by
      rcases Nat.eq_zero_or_pos zero.length with h3 | h3
      · rw [h3] at hq; simp at hq
      · exact h3
    have hm := Nat.mod_lt q hz
    rw [if_pos hq]
    simp [Array.getElem?_toList, hq, hm]
  · rw [if_neg hq]
    simp; omega
section
variable {P : Program} {r : Option Nat} {n : Nat} {K : KK} {f : FF} {ds : List Deferred} {w w' : World} {all : Array Oper} {rest : List Oper}
variable {T : TypeId} {pos : String} {af : Array Edge} {d : Nat} {I : Im} {l : List HP} {t : TypeId} {agg : Bool} {zero : List Value} {x y : Operand}
theorem oU {pl : List (Nat × Nat)} {parts : List (Nat × Operand)} {vp : List (Nat × Value)} {cs : List Value} (hS : StrT P t pl) (hT : TyC P t true zero) (hp : EvP n f parts vp)
    (hf' : fillL (pl[·]?) zero vp = some cs)
    (h : OW P r n all K rest (upd f d (.agg cs.toArray)) ds w) : OW P r n all K (⟨some d, .build t parts.toArray, T, pos, af, none⟩ :: rest) f ds w := by
  refine oV ?_ rfl h
  have hf : Instr.fill (pl.toArray[·]?) zero.toArray vp = some cs.toArray := by
    have := fill_eq _ _ _ _ hf'
    simpa using this
  obtain ⟨fs, hu, hrun⟩ := hS.run
  have hz : ∀ w, (zeroValue t).run P w = .ok (.agg zero.toArray) w := fun w => hT.run_zero w
  have hm := hp.map
  have hr := hrun w
  simp only [execOp, Sem.run_bind, Instr.build, hz, Result.andThen_ok, run_underlying hu, Value.cells, hr, List.map_toArray, hm, hf, Sem.run_pure]
theorem ow_buildA {len : Nat} {e : TypeId} {ea : Bool} {ez : List Value} {parts : List (Nat × Operand)} {vp : List (Nat × Value)} {cs : List Value} (hu : ArrT P t len e) (he : TyC P e ea ez) (hT : TyC P t true zero) (hp : EvP n f parts vp)
    (hf' : fillL (fun i => some (i * ez.length, ez.length)) zero vp = some cs)
    (h : OW P r n all K rest (upd f d (.agg cs.toArray)) ds w) : OW P r n all K (⟨some d, .build t parts.toArray, T, pos, af, none⟩ :: rest) f ds w := by
  refine oV ?_ rfl h
  have hf := fill_eq _ _ _ _ hf'
  have hz : ∀ w, (zeroValue t).run P w = .ok (.agg zero.toArray) w := fun w => hT.run_zero w
  have hm := hp.map
  simp only [execOp, Sem.run_bind, Instr.build, hz, Result.andThen_ok, run_underlying hu, Value.cells, he.run_sizeOf, List.map_toArray, hm, hf, Sem.run_pure]
/-- A slice that is written out: it stays as it is. -/
theorem x_buildSlice {dd : Option Nat} {gg : Option (Nat × Bool)} {len : Nat} {e : TypeId} {parts : List (Nat × Operand)} {vp : List (Nat × Value)} {cs : List Value} (hu : SliceT P t e) (he : TyC P e agg zero) (hz1 : zero.all Value.oneCell' = true) (hp : EvP n f parts vp)
    (hsm : len * zero.length ≤ 16777216)
    (hf' : fillL (fun i => some (i * zero.length, zero.length)) (List.replicate len zero).flatten vp = some cs) (hlz : 0 < len * zero.length) :
    (execOp (ev n f) ⟨dd, .buildSlice t len parts.toArray, T, pos, af, gg⟩).run P w = .ok (.value (.slice (some ⟨w.heap.size, 0, none⟩) len len)) (w.alloc (.cells cs.toArray e)) := by
  have hm := hp.map
  have hf := fill_eq _ _ _ _ hf'
  rw [← range_zero] at hf
  have hc := cells_zero agg zero he.one (fun _ v hv => List.all_eq_true.1 hz1 v hv)
  have h1 : ¬ len * zero.length > 2 ^ 24 := by simp; omega
  have h2 : ¬ len * zero.length = 0 := by omega
  simp only [execOp, Sem.run_bind, Instr.buildSlice, run_underlying hu, Result.andThen_ok, he.run_sizeOf, if_neg h1, if_neg h2, he.run_zero, hc, Sem.run_pure, List.map_toArray, hm, hf, newRow, run_newObj, World.alloc_eq]
theorem Rs_new {J : Im} {g : PH} {b e sz m : Nat} {cs : List Value} (hg : blk b e cs g) (hJ : ∀ b o, g b = some o → J.ph b = some o) (hl : cs.length = m * sz) (hm : m ≤ maxLen) : Rs J sz (some ⟨b, 0, none⟩) m m cs :=
  ⟨hl, Nat.le_refl _, hm, .inr ⟨b, 0, cs.toArray, e, (0, 0), rfl, hJ _ _ hg, fun j v hv => by simpa using hv⟩⟩
theorem fill_length (place : Nat → Option (Nat × Nat)) : ∀ (vp : List (Nat × Value)) (z cs : Array Value), Instr.fill place z vp = some cs → cs.size = z.size
  | [], z, cs, h => by simp [Instr.fill] at h; rw [h]
  | (i, v) :: vp, z, cs, h => by
    unfold Instr.fill at h
    split at h
    · cases h
    · split at h
      · cases h
      · rename_i off size _ _
        have := fill_length place vp _ cs h
        rw [this]
        generalize v.cells.zipIdx.toList = L at *
        have key : ∀ (L : List (Value × Nat)) (z : Array Value), (L.foldl (fun cs x => cs.setIfInBounds (off + x.2) x.1) z).size = z.size := by
          intro L
          induction L with
          | nil => intro z; rfl
          | cons a L ih => intro z; simp [ih]
        rw [← Array.foldl_toList]
        exact key _ _
theorem ow_buildSlice {len : Nat} {e : TypeId} {parts : List (Nat × Operand)} {vp : List (Nat × Value)} {cs : List Value} (hs : Sat I l w) (hu : SliceT P t e) (he : TyC P e agg zero) (hz1 : zero.all Value.oneCell' = true) (hp : EvP n f parts vp)
    (hsm : len * zero.length ≤ 16777216)
    (hf' : fillL (fun i => some (i * zero.length, zero.length)) (List.replicate len zero).flatten vp = some cs) (hlz : 0 < len * zero.length)
    (h : ∀ oa J w', Im.le I J → Sat J l w' → Rs J zero.length oa len len cs → OW P r n all K rest (upd f d (.slice oa len len)) ds w') :
    OW P r n all K (⟨some d, .buildSlice t len parts.toArray, T, pos, af, none⟩ :: rest) f ds w := by
  have hcs : cs.length = len * zero.length := by
    have hf := fill_eq _ _ _ _ hf'
    rw [← range_zero] at hf
    have := fill_length _ _ _ _ hf
    simpa using this
  have hlen : len ≤ maxLen := by
    have := le_mul_of_pos hlz
    unfold maxLen; omega
  obtain ⟨g, J, hg, hle, hJ, hs'⟩ := (hs.push (.cells cs.toArray e) (blk w.heap.size e cs) (by simp [blk])).freeze
  exact oV (x_buildSlice hu he hz1 hp hsm hf' hlz) rfl (h _ J _ hle hs' (Rs_new hg hJ hcs hlen))
/-- One that may be written. -/
theorem ow_buildSliceO {len : Nat} {e : TypeId} {parts : List (Nat × Operand)} {vp : List (Nat × Value)} {cs : List Value} (hs : Sat I l w) (hu : SliceT P t e) (he : TyC P e agg zero) (hz1 : zero.all Value.oneCell' = true) (hp : EvP n f parts vp)
    (hsm : len * zero.length ≤ 16777216)
    (hf' : fillL (fun i => some (i * zero.length, zero.length)) (List.replicate len zero).flatten vp = some cs) (hlz : 0 < len * zero.length)
    (h : ∀ oa w', Sat I (osl e zero.length oa len len cs :: l) w' → OW P r n all K rest (upd f d (.slice oa len len)) ds w') :
    OW P r n all K (⟨some d, .buildSlice t len parts.toArray, T, pos, af, none⟩ :: rest) f ds w := by
  have hcs : cs.length = len * zero.length := by
    have hf := fill_eq _ _ _ _ hf'
    rw [← range_zero] at hf
    have := fill_length _ _ _ _ hf
    simpa using this
  have hlen : len ≤ maxLen := by
    have := le_mul_of_pos hlz
    unfold maxLen; omega
  refine oV (x_buildSlice hu he hz1 hp hsm hf' hlz) rfl (h _ _ (hs.push (.cells cs.toArray e) _ ?_))
  exact ⟨hcs, .inr ⟨w.heap.size, cs.toArray, rfl, if_pos rfl, Nat.le_refl _, hlen, by simpa using hcs, by simp [← hcs]⟩⟩
theorem Sat.pushE (hs : Sat I l w) {q : HP} (hq : q (fun _ => none)) : Sat I (q :: l) w := by
  refine ⟨hs.imm, hs.os, hs.tape, hs.output, ⟨fun _ => none, hq, fun b o e => by simp at e, hs.own.anti fun b x => ?_⟩⟩
  rcases x with x | x
  · exact x
  · simp at x
theorem Sat.pushNil (hs : Sat I l w) (e : TypeId) (sz : Nat) : Sat I (osl e sz none 0 0 [] :: l) w := hs.pushE ⟨by simp, .inl ⟨rfl, rfl, rfl⟩⟩
/-- A slice that nobody will write any more. -/
theorem Sat.freezeO {e : TypeId} {sz : Nat} {oa : Option Addr} {m c : Nat} {xs : List Value} (hs : Sat I (osl e sz oa m c xs :: l) w) : ∃ J, Im.le I J ∧ Rs J sz oa m c xs ∧ Sat J l w := by
  obtain ⟨g, J, ⟨hl, hg⟩, hle, hJ, hs'⟩ := hs.freeze
  refine ⟨J, hle, ⟨hl, ?_, ?_, ?_⟩, hs'⟩
  · rcases hg with ⟨_, h1, h2⟩ | ⟨_, _, _, _, h3, _⟩ <;> omega
  · rcases hg with ⟨_, h1, h2⟩ | ⟨_, _, _, _, _, h4, _⟩
    · unfold maxLen; omega
    · exact h4
  · rcases hg with ⟨_, h1, h2⟩ | ⟨b, cur, h1, h2, h3, h4, h5, h6⟩
    · exact .inl h1
    · refine .inr ⟨b, 0, cur, e, (0, 0), h1, hJ _ _ h2, fun j v hv => ?_⟩
      rw [← h6, List.getElem?_take] at hv
      split at hv
      · simpa using hv
      · cases hv
theorem Sat.freezeB {b : Nat} {e : TypeId} {cs : List Value} (hs : Sat I (HL.blk b e cs :: l) w) : ∃ J, Im.le I J ∧ Ib J b e cs ∧ Sat J l w := by
  obtain ⟨g, J, hg, hle, hJ, hs'⟩ := hs.freeze
  exact ⟨J, hle, hJ _ _ hg, hs'⟩
/-! ### append -/
structure ElT (P : Program) (e : TypeId) (zero : List Value) (bytes : Nat) : Prop where
  info : (P.info? e).map (fun i => (i.bytes)) = some bytes
theorem osl_row {e : TypeId} {sz : Nat} {oa : Option Addr} {m c : Nat} {xs : List Value} {g : PH} (h : osl e sz oa m c xs g) (hw : ∀ b o, g b = some o → w.heap[b]? = some o) : w.ownsRow 0 e sz (.slice oa m c) m xs := by
  refine ⟨h.1, ?_⟩
  rcases h.2 with ⟨rfl, rfl, rfl⟩ | ⟨b, cur, rfl, h2, h3, h4, h5, h6⟩
  · exact .inl ⟨rfl, rfl⟩
  · exact .inr ⟨b, c, cur, rfl, Nat.zero_le _, hw _ _ h2, h3, h4, h5, h6⟩
theorem x_appendB {dd : Option Nat} {gg : Option (Nat × Bool)} {k : Nat} {e : TypeId} {oa ob : Option Addr} {m c m2 c2 bytes : Nat} {xs ys : List Value} (hs : Sat I l w) (hk : l[k]? = some (osl e zero.length oa m c xs))
    (hu : SliceT P t e) (hT : TyC P e agg zero) (hE : ElT P e zero bytes) (hz1 : zero.all Value.oneCell' = true) (hx : ev n f x = .slice oa m c) (hy : ev n f y = .slice ob m2 c2)
    (hR : Rs I zero.length ob m2 c2 ys) (h1 : ys.all Value.oneCell' = true) (h63 : m + m2 ≤ 1099511627776) (hbytes : (m + m2) * bytes ≤ 140737488355328) :
    ∃ oa' c' w', (execOp (ev n f) ⟨dd, .call ⟨.builtin .append, #[x, y], #[t, t]⟩, T, pos, af, gg⟩).run P w = .ok (.value (.slice oa' (m + m2) c')) w' ∧
      Sat I (l.set k (osl e zero.length oa' (m + m2) c' (xs ++ ys))) w' := by
  obtain ⟨i, hi, he⟩ := Option.map_eq_some_iff.1 hT.info
  obtain ⟨i', hi', he'⟩ := Option.map_eq_some_iff.1 hE.info
  rw [hi] at hi'; cases hi'
  simp only [Prod.mk.injEq] at he
  obtain ⟨g, hg, hgg, hclose⟩ := hs.focus hk
  have hcz := cells_zero agg zero hT.one (fun _ v hv => List.all_eq_true.1 hz1 v hv)
  have hR1 := hR.1
  have hg1 := hg.1
  have hnews : ∀ a, ob = some a → ∀ j u, ys[j]? = some u → w.cell? (a.add j) = some u := fun a hob j u hu => by
    subst hob
    have := CA_Rs hs hR 0 ys.length j u (by simpa using hu)
    simpa [ea, Addr.add] using this
  have hone : ∀ u ∈ ys, u.oneCell' = true := fun u hu => List.all_eq_true.1 h1 u hu
  have hlen : (xs ++ ys).length = (m + m2) * zero.length := by rw [List.length_append, hg1, hR1, Nat.add_mul]
  by_cases hroom : m + m2 ≤ c
  · rcases hg.2 with ⟨rfl, h2, h3⟩ | ⟨b, cur, rfl, h2, h3, h4, h5, h6⟩
    · obtain ⟨rfl, rfl⟩ : m = 0 ∧ m2 = 0 := by omega
      subst h3
      have hxs : xs = [] := by simpa using hg1
      have hys : ys = [] := by simpa using hR1
      subst hxs; subst hys
      refine ⟨none, 0, w, ?_, hs.weaken hk fun g h => h⟩
      cases ob with
      | none => simp [execOp, resolve, hx, hy, invoke, builtin, Builtin.append_, run_underlying hu, hT.run_sizeOf, Builtin.lenOf, Builtin.firstCells]
      | some a => simp [execOp, resolve, hx, hy, invoke, builtin, Builtin.append_, run_underlying hu, hT.run_sizeOf, Builtin.lenOf, Builtin.firstCells, loadCells, loadCellsFrom]
    · have hb := (hgg b _ h2).1
      cases ob with
      | none =>
        have hm2 : m2 = 0 := by
          rcases hR.2.2.2 with h0 | ⟨_, _, _, _, _, h1, _⟩
          · exact h0
          · cases h1
        subst hm2
        have hys : ys = [] := by simpa using hR1
        subst hys
        refine ⟨some ⟨b, 0, none⟩, c, w, ?_, hs.weaken hk fun g h => by simpa using h⟩
        simp [execOp, resolve, hx, hy, invoke, builtin, Builtin.append_, run_underlying hu, hT.run_sizeOf, Builtin.lenOf, Builtin.firstCells, h3, storeCells]
      | some a =>
        have hfit : m * zero.length + ys.length ≤ cur.size := by
          rw [hR1, ← Nat.add_mul, h5]; exact Nat.mul_le_mul_right _ hroom
        have hrun := run_append_room (P := P) (w := w) t T e i hu hi b m c cur hb a m2 c2 ys (by rw [he.1]; exact hR1) (hnews a rfl) hone hroom (by rw [he.1]; exact hfit)
        rw [he.1] at hrun
        refine ⟨some ⟨b, 0, none⟩, c, _, by simp [execOp, resolve, hx, hy, invoke, builtin, hrun]; rfl, ?_⟩
        refine hclose _ (fun b' => if b' = b then some (.cells (cur.toList.take (m * zero.length) ++ ys ++ cur.toList.drop (m * zero.length + ys.length)).toArray e (0, 0)) else none) _ ?_ rfl rfl ⟨rfl, Nat.le_refl _⟩ ?_ ?_ ?_
        · refine ⟨hlen, .inr ⟨b, (cur.toList.take (m * zero.length) ++ ys ++ cur.toList.drop (m * zero.length + ys.length)).toArray, rfl, if_pos rfl, hroom, h4, ?_, ?_⟩⟩
          · simp only [List.size_toArray, List.length_append, List.length_take, List.length_drop, Array.length_toList]; omega
          · have hc2 : (List.take (m * zero.length) cur.toList ++ ys).length = (m + m2) * zero.length := by
              rw [h6]; exact hlen
            rw [List.toList_toArray, List.take_append_of_le_length (by omega), List.take_of_length_le (by omega), h6]
        · intro b' o' e'
          split at e'
          · rename_i hb'
            subst hb'
            cases e'
            have := setRow_heap w b' cur (cur.toList.take (m * zero.length) ++ ys ++ cur.toList.drop (m * zero.length + ys.length)).toArray e (0, 0) hb
            simp only [List.append_assoc] at this ⊢
            exact this
          · cases e'
        · intro b' hb'
          split at hb'
          · rename_i e'; subst e'; exact .inl (by rw [h2]; rfl)
          · cases hb'
        · intro b' hlt hn
          refine setRow_other _ _ _ _ fun e' => ?_
          subst e'
          rw [h2] at hn
          cases hn
  · have hm2 : 0 < m2 := by
      have : m ≤ c := by rcases hg.2 with ⟨_, h1, h2⟩ | ⟨_, _, _, _, h3, _⟩ <;> omega
      omega
    obtain ⟨a, rfl⟩ := Option.isSome_iff_exists.1 (hR.some hm2)
    have hfin : ∀ (old : Nat) (cap : Nat), m + m2 ≤ cap → cap ≤ maxLen → ∀ (cs : Array Value), cs.size = cap * zero.length → cs.toList.take ((m + m2) * zero.length) = xs ++ ys →
        Sat I (l.set k (osl e zero.length (some ⟨w.heap.size, 0, none⟩) (m + m2) cap (xs ++ ys))) (w.drew.alloc (.cells cs e)) := by
      intro old cap hc1 hc2 cs hcs htake
      refine hclose _ (fun b' => if b' = w.heap.size then some (.cells cs e (0, 0)) else none) _ ⟨hlen, .inr ⟨w.heap.size, cs, rfl, if_pos rfl, hc1, hc2, hcs, htake⟩⟩ rfl rfl ⟨rfl, Nat.le_succ _⟩ ?_ ?_ ?_
      · intro b' o' e'
        split at e'
        · rename_i hb'
          subst hb'
          cases e'
          exact heap_alloc_new w.drew _
        · cases e'
      · intro b' hb'
        split at hb'
        · rename_i e'; subst e'; exact .inr (Nat.le_refl _)
        · cases hb'
      · intro b' hlt hn
        exact heap_alloc_old w.drew _ hlt
    have hzc : ∀ cap : Nat, m + m2 ≤ cap → (xs.toArray ++ ys.toArray ++ Builtin.zeroCells zero.toArray (cap - (m + m2))).size = cap * zero.length := by
      intro cap hcap
      simp only [Array.size_append, List.size_toArray, size_zeroCells]
      rw [hg1, hR1, ← Nat.add_mul, ← Nat.add_mul]
      congr 1
      omega
    have htk : ∀ cap : Nat, (xs.toArray ++ ys.toArray ++ Builtin.zeroCells zero.toArray (cap - (m + m2))).toList.take ((m + m2) * zero.length) = xs ++ ys := by
      intro cap
      rw [Array.toList_append, Array.toList_append, List.take_append_of_le_length (by simp only [List.toList_toArray]; omega)]
      simp only [List.toList_toArray]
      exact List.take_of_length_le (by omega)
    rcases hg.2 with ⟨rfl, h2, h3⟩ | ⟨b, cur, rfl, h2, h3, h4, h5, h6⟩
    · subst h2; subst h3
      have hxs : xs = [] := by simpa using hg1
      have hrun := run_append_nil (P := P) (w := w) t T e i _ hu hi he.2 a m2 c2 ys (by rw [he.1]; exact hR1) (hnews a rfl) hm2 (by omega) (by rw [he']; simp only [Nat.zero_add] at hbytes; omega)
      rw [hcz] at hrun
      have hge := grownCap_ge w m2 0 e
      have hcm := grownCap_le_maxLen w m2 0 e (by unfold maxLen; omega)
      refine ⟨some ⟨w.heap.size, 0, none⟩, grownCap w m2 0 e, _, by simp only [execOp, resolve, List.map_toArray, List.map_cons, List.map_nil, hx, hy, Sem.run_bind, Sem.run_pure, Result.andThen_ok, invoke, builtin, hrun, Nat.zero_add]; rfl, ?_⟩
      have := hfin 0 (grownCap w m2 0 e) (by omega) hcm _ (hzc _ (by omega)) (htk _)
      simpa [hxs] using this
    · have hb := (hgg b _ h2).1
      have hrun := run_append_grow (P := P) (w := w) t T e i _ hu hi he.2 ⟨b, 0, none⟩ m c xs (by rw [he.1]; exact hg1) (fun j v hv => by
          have := osl_CA hs hk 0 xs.length j v (by simpa using hv)
          simpa [ea, Addr.add] using this) a m2 c2 ys (by rw [he.1]; exact hR1) (hnews a rfl) (by omega) (by omega) (by rw [he']; exact growslice_fits (by omega) hbytes)
      rw [hcz] at hrun
      have hge := grownCap_ge w (m + m2) c e
      have hcm := grownCap_le_maxLen w (m + m2) c e (by unfold maxLen; omega)
      refine ⟨some ⟨w.heap.size, 0, none⟩, grownCap w (m + m2) c e, _, by simp only [execOp, resolve, List.map_toArray, List.map_cons, List.map_nil, hx, hy, Sem.run_bind, Sem.run_pure, Result.andThen_ok, invoke, builtin, hrun]; rfl, ?_⟩
      exact hfin c _ hge hcm _ (hzc _ hge) (htk _)
theorem x_append {dd : Option Nat} {gg : Option (Nat × Bool)} {k : Nat} {e : TypeId} {oa ob : Option Addr} {m c m2 c2 bytes : Nat} {xs ys : List Value} (hs : Sat I l w) (hk : l[k]? = some (osl e zero.length oa m c xs))
    (hu : SliceT P t e) (hT : TyC P e agg zero) (hE : ElT P e zero bytes) (hz1 : zero.all Value.oneCell' = true) (hx : ev n f x = .slice oa m c) (hy : ev n f y = .slice ob m2 c2)
    (hR : Rs I zero.length ob m2 c2 ys) (h1 : ys.all Value.oneCell' = true) (h63 : m + m2 ≤ 1099511627776) (hby : bytes ≤ 128) :
    ∃ oa' c' w', (execOp (ev n f) ⟨dd, .call ⟨.builtin .append, #[x, y], #[t, t]⟩, T, pos, af, gg⟩).run P w = .ok (.value (.slice oa' (m + m2) c')) w' ∧
      Sat I (l.set k (osl e zero.length oa' (m + m2) c' (xs ++ ys))) w' := by
  refine x_appendB hs hk hu hT hE hz1 hx hy hR h1 h63 ?_
  have := Nat.mul_le_mul h63 hby
  omega
theorem ow_append {k : Nat} {e : TypeId} {oa ob : Option Addr} {m c m2 c2 bytes : Nat} {xs ys : List Value} (hs : Sat I l w) (hk : l[k]? = some (osl e zero.length oa m c xs))
    (hu : SliceT P t e) (hT : TyC P e agg zero) (hE : ElT P e zero bytes) (hz1 : zero.all Value.oneCell' = true) (hx : ev n f x = .slice oa m c) (hy : ev n f y = .slice ob m2 c2)
    (hR : Rs I zero.length ob m2 c2 ys) (h1 : ys.all Value.oneCell' = true) (h63 : m + m2 ≤ 1099511627776) (hby : bytes ≤ 128)
    (h : ∀ oa' c' w', Sat I (l.set k (osl e zero.length oa' (m + m2) c' (xs ++ ys))) w' → OW P r n all K rest (upd f d (.slice oa' (m + m2) c')) ds w') :
    OW P r n all K (⟨some d, .call ⟨.builtin .append, #[x, y], #[t, t]⟩, T, pos, af, none⟩ :: rest) f ds w := by
  obtain ⟨oa', c', w', hrun, hs'⟩ := x_append (T := T) (pos := pos) (af := af) (dd := some d) (gg := none) hs hk hu hT hE hz1 hx hy hR h1 h63 hby
  exact oV hrun rfl (h oa' c' w' hs')
theorem ow_appendB {k : Nat} {e : TypeId} {oa ob : Option Addr} {m c m2 c2 bytes : Nat} {xs ys : List Value} (hs : Sat I l w) (hk : l[k]? = some (osl e zero.length oa m c xs))
    (hu : SliceT P t e) (hT : TyC P e agg zero) (hE : ElT P e zero bytes) (hz1 : zero.all Value.oneCell' = true) (hx : ev n f x = .slice oa m c) (hy : ev n f y = .slice ob m2 c2)
    (hR : Rs I zero.length ob m2 c2 ys) (h1 : ys.all Value.oneCell' = true) (h63 : m + m2 ≤ 1099511627776) (hbytes : (m + m2) * bytes ≤ 140737488355328)
    (h : ∀ oa' c' w', Sat I (l.set k (osl e zero.length oa' (m + m2) c' (xs ++ ys))) w' → OW P r n all K rest (upd f d (.slice oa' (m + m2) c')) ds w') :
    OW P r n all K (⟨some d, .call ⟨.builtin .append, #[x, y], #[t, t]⟩, T, pos, af, none⟩ :: rest) f ds w := by
  obtain ⟨oa', c', w', hrun, hs'⟩ := x_appendB (T := T) (pos := pos) (af := af) (dd := some d) (gg := none) hs hk hu hT hE hz1 hx hy hR h1 h63 hbytes
  exact oV hrun rfl (h oa' c' w' hs')
end
end Go.HL
