/- Slices of slices, made slices; calls, entries, returns; a region whose order is drawn; they hold of every program. -/
import Derived.Test.YtllfmfoahloldaaGreatHL5
set_option linter.unusedVariables false
set_option linter.unusedSimpArgs false
set_option linter.unusedSectionVars false
namespace Go.HL
open Go.RowKit
/-- The head of a slice of a slice. -/
def so (oa : Option Addr) (c m sz : Nat) : Option Addr := if c = m then oa else oa.map (·.add (m * sz))
theorem Rs_slice {I : Im} {sz : Nat} {oa : Option Addr} {n c : Nat} {xs : List Value} (h : Rs I sz oa n c xs) (lo hi mx : Nat) (h1 : lo ≤ hi) (h2 : hi ≤ n) (h3 : hi ≤ mx) (h4 : mx ≤ c) :
    Rs I sz (so oa c lo sz) (hi - lo) (mx - lo) ((xs.drop (lo * sz)).take ((hi - lo) * sz)) := by
  have hl := h.1
  have hmul : hi * sz ≤ n * sz := Nat.mul_le_mul_right _ h2
  have hsub : (hi - lo) * sz = hi * sz - lo * sz := Nat.sub_mul _ _ _
  have hle : lo * sz ≤ hi * sz := Nat.mul_le_mul_right _ h1
  have h22 := h.2.2.1
  refine ⟨by simp only [List.length_take, List.length_drop]; omega, by omega, by omega, ?_⟩
  by_cases e : hi - lo = 0
  · exact .inl e
  · rcases h.2.2.2 with h0 | ⟨g, off, cur, T, fr, e1, e2, e3⟩
    · omega
    · refine .inr ⟨g, off + lo * sz, cur, T, fr, ?_, e2, fun j v hj => ?_⟩
      · subst e1
        unfold so
        split
        · omega
        · simp [add_none]
      · rw [List.getElem?_take] at hj
        split at hj
        · rw [List.getElem?_drop] at hj
          have := e3 _ _ hj
          rw [Nat.add_assoc]; exact this
        · cases hj
section
variable {P : Program} {r : Option Nat} {n : Nat} {K : KK} {f : FF} {ds : List Deferred} {w w' : World} {all : Array Oper} {rest : List Oper}
variable {T : TypeId} {pos : String} {af : Array Edge} {d : Nat} {I : Im} {l : List HP} {t : TypeId} {agg : Bool} {zero : List Value} {x y : Operand}
variable {dd : Option Nat} {gg : Option (Nat × Bool)} {e : TypeId} {oa : Option Addr} {m c : Nat}
theorem run_bound_in (k : IntKind) (i : Int) (y : Nat) (code : BoundsCode) (h0 : 0 ≤ i) (h : i ≤ y) : (Instr.sliceBound (.int k i) y code).run P w = .ok i.toNat w := by
  simp [Instr.sliceBound, asIntOf, h0, h]
theorem x_slice_lo {lo : Operand} {k1 : IntKind} {i : Int} (hu : SliceT P t e) (hT : TyC P e agg zero) (hx : ev n f x = .slice oa m c) (hlo : ev n f lo = .int k1 i) (h0 : 0 ≤ i) (h1 : i ≤ m) :
    (execOp (ev n f) ⟨dd, .slice t x (some lo) none none, T, pos, af, gg⟩).run P w = .ok (.value (.slice (so oa c i.toNat zero.length) (m - i.toNat) (c - i.toNat))) w := by
  simp [execOp, hx, hlo, Instr.sliceAt, Instr.slice, run_underlying hu, Instr.sliceBounds, run_bound_in _ _ _ _ h0 h1, hT.run_sizeOf, so]
theorem x_slice_hi {hi : Operand} {k1 : IntKind} {i : Int} (hu : SliceT P t e) (hT : TyC P e agg zero) (hx : ev n f x = .slice oa m c) (hhi : ev n f hi = .int k1 i) (h0 : 0 ≤ i) (h1 : i ≤ c) :
    (execOp (ev n f) ⟨dd, .slice t x none (some hi) none, T, pos, af, gg⟩).run P w = .ok (.value (.slice (so oa c 0 zero.length) i.toNat c)) w := by
  simp [execOp, hx, hhi, Instr.sliceAt, Instr.slice, run_underlying hu, Instr.sliceBounds, run_bound_in _ _ _ _ h0 h1, hT.run_sizeOf, so]
theorem x_slice_lohi {lo hi : Operand} {k1 k2 : IntKind} {i j : Int} (hu : SliceT P t e) (hT : TyC P e agg zero) (hx : ev n f x = .slice oa m c) (hlo : ev n f lo = .int k1 i) (hhi : ev n f hi = .int k2 j) (h0 : 0 ≤ i) (h1 : i ≤ j) (h2 : j ≤ c) :
    (execOp (ev n f) ⟨dd, .slice t x (some lo) (some hi) none, T, pos, af, gg⟩).run P w = .ok (.value (.slice (so oa c i.toNat zero.length) (j.toNat - i.toNat) (c - i.toNat))) w := by
  have hj0 : 0 ≤ j := by omega
  simp [execOp, hx, hlo, hhi, Instr.sliceAt, Instr.slice, run_underlying hu, Instr.sliceBounds, run_bound_in _ _ _ _ hj0 h2, run_bound_in _ _ j.toNat _ h0 (by omega), hT.run_sizeOf, so]
theorem x_slice_himax {hi mx : Operand} {k1 k2 : IntKind} {i j : Int} (hu : SliceT P t e) (hT : TyC P e agg zero) (hx : ev n f x = .slice oa m c) (hhi : ev n f hi = .int k1 i) (hmx : ev n f mx = .int k2 j) (h0 : 0 ≤ i) (h1 : i ≤ j) (h2 : j ≤ c) :
    (execOp (ev n f) ⟨dd, .slice t x none (some hi) (some mx), T, pos, af, gg⟩).run P w = .ok (.value (.slice (if j.toNat = 0 then oa else oa.map (·.add 0)) i.toNat j.toNat)) w := by
  have hj0 : 0 ≤ j := by omega
  simp [execOp, hx, hhi, hmx, Instr.sliceAt, Instr.slice, run_underlying hu, Instr.sliceBounds, run_bound_in _ _ _ _ hj0 h2, run_bound_in _ _ j.toNat _ h0 (by omega), hT.run_sizeOf]
/-- A made slice. -/
theorem ow_make {xl xc : Operand} {k1 k2 : IntKind} {i j : Int} {bytes : Nat} (hs : Sat I l w) (hu : SliceT P t e) (hT : TyC P e agg zero) (hE : ElT P e zero bytes) (hz1 : zero.all Value.oneCell' = true)
    (hl : ev n f xl = .int k1 i) (hc : ev n f xc = .int k2 j) (h0 : 0 ≤ i) (h1 : i ≤ j) (h2 : j ≤ 1099511627776) (hby : bytes ≤ 128)
    (h : ∀ oa w', Sat I (osl e zero.length oa i.toNat j.toNat (List.replicate i.toNat zero).flatten :: l) w' → oa.isSome = true → OW P r n all K rest (upd f d (.slice oa i.toNat j.toNat)) ds w') :
    OW P r n all K (⟨some d, .makeSlice t xl xc, T, pos, af, none⟩ :: rest) f ds w := by
  obtain ⟨ii, hi, he⟩ := Option.map_eq_some_iff.1 hT.info
  obtain ⟨i', hi', he'⟩ := Option.map_eq_some_iff.1 hE.info
  rw [hi] at hi'; cases hi'
  simp only [Prod.mk.injEq] at he
  have hcz := cells_zero agg zero hT.one (fun _ v hv => List.all_eq_true.1 hz1 v hv)
  have hb : (ii.bytes : Int) * j ≤ 281474976710656 := by
    have h3 : (ii.bytes : Int) ≤ 128 := by omega
    have : (ii.bytes : Int) * j ≤ 128 * 1099511627776 := Int.mul_le_mul h3 h2 (by omega) (by omega)
    omega
  have hrun := run_make w t e ii _ hu hi he.2 k1 k2 i j h0 h1 hb (by omega)
  rw [hcz, he.1] at hrun
  refine oV (w' := w.alloc (.cells (madeCells zero.toArray (j.toNat * zero.length)) e)) (v := .slice (some ⟨w.heap.size, 0, none⟩) i.toNat j.toNat) (by simp only [execOp, hl, hc, Sem.run_bind, hrun, Result.andThen_ok, Sem.run_pure]) rfl (h _ _ (hs.push _ _ ?_) rfl)
  have hsz : (madeCells zero.toArray (j.toNat * zero.length)).size = j.toNat * zero.length := size_madeCells _ _
  have hij : i.toNat * zero.length ≤ j.toNat * zero.length := Nat.mul_le_mul_right _ (by omega)
  have hlen : ∀ a : Nat, (List.replicate a zero).flatten.length = a * zero.length := by
    intro a
    induction a with
    | zero => simp
    | succ a ih => simp
  refine ⟨hlen _, .inr ⟨w.heap.size, _, rfl, if_pos rfl, by omega, by unfold maxLen; omega, hsz, ?_⟩⟩
  apply List.ext_getElem?
  intro q
  rw [List.getElem?_take]
  have hflat : ∀ (a q : Nat), (List.replicate a zero).flatten[q]? = if q < a * zero.length then zero[q % zero.length]? else none := by
    intro a
    induction a with
    | zero => intro q; simp
    | succ a ih =>
      intro q
      rw [List.replicate_succ, List.flatten_cons, List.getElem?_append]
      by_cases hq : q < zero.length
      · rw [if_pos hq, if_pos (by rw [Nat.succ_mul]; omega), Nat.mod_eq_of_lt hq]
      · rw [if_neg hq, ih]
        have hz : 0 < zero.length ∨ zero.length = 0 := by omega
        by_cases h3 : q - zero.length < a * zero.length
        · rw [if_pos h3, if_pos (by rw [Nat.succ_mul]; omega)]
          congr 1
          rw [← Nat.mod_eq_sub_mod (by omega)]
        · rw [if_neg h3, if_neg (by rw [Nat.succ_mul]; omega)]
  rw [hflat]
  split
  · rename_i hq
    have hq2 : q < (madeCells zero.toArray (j.toNat * zero.length)).size := by omega
    have hz : 0 < zero.length := by
      rcases Nat.eq_zero_or_pos zero.length with h3 | h3
      · rw [h3] at hq; simp at hq
      · exact h3
    have hm := Nat.mod_lt q hz
    simp [madeCells, Array.getElem?_toList, show q < j.toNat * zero.length by omega, hm]
  · rfl
/-! ### Calls -/
def CV (P : Program) (k : FuncId) (args : List Value) (w : World) (Post : Value → World → Prop) : Prop := Calls P k args.toArray w fun e w' => ∃ v, e = .returned v ∧ Post v w'
theorem CV.mono {k : FuncId} {args : List Value} {Post Post' : Value → World → Prop} (h : CV P k args w Post) (hp : ∀ v w', Post v w' → Post' v w') : CV P k args w Post' :=
  Calls.mono h fun _ _ ⟨v, e, p⟩ => ⟨v, e, hp _ _ p⟩
theorem callsIn_Fw {k : FuncId} {args : Array Value} {R : Ending → World → Prop} (m : Nat) (h : Calls P k args w R) : CallsIn (Fw r) m P k args w R := by
  cases r with
  | none => exact callsIn_wide.2 h
  | some i => exact callsIn_wide.2 h
theorem ow_call' {o : Oper} {xf : Operand} {k : FuncId} {fi vs ca : List Value} {ops : List Operand} {ts : Array TypeId} {Post : Value → World → Prop} (hg : o.guard = none) (ho : o.op = .call ⟨.value xf, ops.toArray, ts⟩)
    (hf : ev n f xf = .func (.func k) fi.toArray ca.toArray) (ha : EvL n f ops vs) (hE : Go.Proofs.Enters P k)
    (hc : CV P k (fi ++ vs ++ ca) w Post) (h : ∀ v w', Post v w' → OW P r n all K rest (updO f o.dst v) ds w') : OW P r n all K (o :: rest) f ds w := by
  refine wpListIn_step hg ⟨fun _ _ => trivial, ?_⟩
  rw [semAt_nd _ _ (by rw [ho]; rfl), eval_Fr]
  have hrun : (execOp (ev n f) o).run P w = .ok (.enter k (fi ++ vs ++ ca).toArray) w := by
    have hm := ha.map
    have h2 := hE ((fi ++ vs) ++ ca).toArray w
    simp only [execOp, ho, resolve, List.map_toArray, hm, hf, Deferred.ofValue, Sem.run_bind, Sem.run_pure, Result.andThen_ok, invoke, List.append_toArray, h2]
  rw [hrun, Oper.uponIn_enter]
  refine ⟨fun hd => by simp [Fw] at hd, callsIn_Fw _ (Calls.mono hc ?_)⟩
  rintro e w' ⟨v, rfl, hp⟩
  show wpListIn _ _ _ _ _ _ _ _
  rw [put_Fr]
  exact h v w' hp
theorem oC {dst : Option Nat} {xf : Operand} {k : FuncId} {fi vs ca : List Value} {ops : List Operand} {ts : Array TypeId} {Post : Value → World → Prop}
    (hf : ev n f xf = .func (.func k) fi.toArray ca.toArray) (ha : EvL n f ops vs) (hE : Go.Proofs.Enters P k)
    (hc : CV P k (fi ++ vs ++ ca) w Post) (h : ∀ v w', Post v w' → OW P r n all K rest (updO f dst v) ds w') : OW P r n all K (⟨dst, .call ⟨.value xf, ops.toArray, ts⟩, T, pos, af, none⟩ :: rest) f ds w :=
  ow_call' rfl rfl hf ha hE hc h
/-- What stands behind a function's return. -/
def retK (P : Program) (fn : Func) (n : Nat) (Post : Value → World → Prop) : KK := fun e f ds w => (e = .normal ∨ e = .ret) ∧ ds = [] ∧ ∃ v, (results fn (Fr n f)).run P w = .ok v w ∧ Post v w
theorem cv_of {k : FuncId} {fn : Func} {cd : Code} {args : List Value} {Post : Value → World → Prop} (hf : P.funcs[k]? = some fn) (hb : fn.body = some cd) (hn : fn.ntmps = n) (hl : args.length ≤ n)
    (h : CW P none n cd (retK P fn n Post) (argF args) [] w) : CV P k args w Post := by
  refine callsIn_wide (n := 0).1 (callsIn_of_wp hf hb trivial ?_ rfl)
  rw [hn, Fr_args args n hl]
  refine wpIn_mono h ?_
  rintro e a w' ⟨f', ds', rfl, he, rfl, v, hr, hp⟩
  rcases he with rfl | rfl
  · exact ⟨rfl, v, hr, v, rfl, hp⟩
  · exact ⟨rfl, v, hr, v, rfl, hp⟩
def retV : List Value → Value
  | [v] => v
  | vs => .tuple vs.toArray
/-- The results, one by one. -/
def RV (P : Program) (n : Nat) (f : FF) (w : World) : List ResultVar → List Value → Prop
  | [], [] => True
  | .tmp t :: rs, v :: vs => ev n f (.tmp t) = v ∧ RV P n f w rs vs
  | .cell a t :: rs, v :: vs => (∃ ad agg zero ws, ev n f (.tmp a) = .pointer (some ad) ∧ TyC P t agg zero ∧ CA w ad ws ∧ ws.length = zero.length ∧ (bif agg then .agg ws.toArray else ws.headD undef) = v) ∧ RV P n f w rs vs
  | _, _ => False
def resOne (tmps : Array Value) : ResultVar → Sem Value
  | .tmp t => pure (tmps.getD t undef)
  | .cell a t => do loadVar t (← asAddr (tmps.getD a undef))
theorem RV.run : ∀ {rs : List ResultVar} {vs : List Value}, RV P n f w rs vs → (rs.mapM (resOne (Fr n f))).run P w = .ok vs w
  | [], [], _ => rfl
  | .tmp t :: rs, v :: vs, ⟨h, k⟩ => by
    have h' : (Fr n f).getD t undef = v := (Fr_get n f t).trans h
    simp only [List.mapM_cons, resOne, Sem.run_bind, Sem.run_pure, Result.andThen_ok, h', RV.run k]
  | .cell a t :: rs, v :: vs, ⟨⟨ad, agg, zero, ws, h1, h2, h3, h4, h5⟩, k⟩ => by
    have h' : (Fr n f).getD a undef = .pointer (some ad) := (Fr_get n f a).trans h1
    have h6 : (resOne (Fr n f) (.cell a t)).run P w = .ok v w := by
      simp only [resOne, Sem.run_bind, h', asAddr, Sem.run_pure, Result.andThen_ok, run_loadVar_CA h2 h3 h4, h5]
    simp only [List.mapM_cons, Sem.run_bind, Sem.run_pure, Result.andThen_ok, h6, RV.run k]
  | [], _ :: _, h => h.elim
  | .tmp _ :: _, [], h => h.elim
  | .cell _ _ :: _, [], h => h.elim
theorem run_results {fn : Func} {rs : List ResultVar} {vs : List Value} (hr : fn.results = rs.toArray) (h : RV P n f w rs vs) : (results fn (Fr n f)).run P w = .ok (retV vs) w := by
  have h0 : results fn (Fr n f) = (do let vs ← fn.results.mapM (resOne (Fr n f)); pure (if h : vs.size = 1 then vs[0] else .tuple vs)) := by
    unfold results
    congr 1
  rw [h0, hr, Array.mapM_eq_mapM_toList]
  have := RV.run h
  simp only [Sem.run_bind, Sem.run_map, List.toList_toArray, this, Result.andThen_ok, Sem.run_pure]
  congr 1
  match vs with
  | [] => rfl
  | [v] => rfl
  | _ :: _ :: _ => simp [retV]
theorem rK {fn : Func} {rs : List ResultVar} {vs : List Value} {Post : Value → World → Prop} {ex : Exit} (he : ex = .normal ∨ ex = .ret) (hr : fn.results = rs.toArray) (h : RV P n f w rs vs) (hp : Post (retV vs) w) : retK P fn n Post ex f [] w :=
  ⟨he, rfl, retV vs, run_results hr h, hp⟩
/-! ### A region whose order is drawn -/
def setL (L : Nat → Bool) (i : Nat) : Nat → Bool := fun j => bif Nat.beq j i then true else L j
theorem uponIn_mono2 {F : Fence} {m : Nat} {o : Oper} {a : Act} {X X' : Act → World → Prop} {Q Q' : Exit → Act → World → Prop} (h1 : ∀ a w, X a w → X' a w) (h2 : ∀ ch a w, ¬ Q (.panic ch) a w) (h3 : ¬ LetsOut Q)
    {res : Result Next} (h : o.uponIn F m P a X Q res) : o.uponIn F m P a X' Q' res := by
  cases res with
  | ok x w' =>
    cases x <;> simp only [Oper.uponIn] at h ⊢ <;>
      first
        | exact h1 _ _ h
        | exact ⟨h.1, CallsIn.mono h.2 (fun e w'' he => by cases e <;> first | exact h1 _ _ he | exact absurd he (h2 _ _ _) | exact absurd he h3)⟩
        | exact ⟨h.1, RowsIn.mono h.2 (fun _ _ he => h1 _ _ he)⟩
        | exact ⟨h.1, RoundIn.mono h.2 (fun e w'' he => by cases e <;> first | exact h1 _ _ he | exact absurd he (h2 _ _ _) | exact absurd he h3)⟩
  | halt x w' => cases x <;> simp only [Oper.uponIn] at h ⊢ <;> exact absurd h (h2 _ _ _)
def backOk (ops : List Oper) : Bool := (List.range ops.length).all fun i => match ops[i]? with
  | some o => o.after.toList.all fun e => !Region.binds .any e || Nat.blt e.on i
  | none => true
theorem countP_lt {p q : Nat → Bool} : ∀ (l : List Nat), (∀ x, p x = true → q x = true) → ∀ i ∈ l, p i = false → q i = true → l.countP p < l.countP q
  | [], _, i, hi, _, _ => by cases hi
  | a :: l, h, i, hi, hp, hq => by
    rw [List.countP_cons, List.countP_cons]
    have hle : l.countP p ≤ l.countP q := List.countP_mono_left fun x _ hx => h x hx
    by_cases e : i = a
    · subst e
      simp [hp, hq]; omega
    · have hi' : i ∈ l := by simpa [e] using hi
      have := countP_lt l h i hi' hp hq
      have : (if p a = true then 1 else 0) ≤ (if q a = true then 1 else 0) := by
        by_cases hpa : p a = true
        · simp [hpa, h a hpa]
        · simp [hpa]
      omega
theorem cw_draw (hm : P.follows .mixedOrders = true) {id : Nat} {ops : List Oper} (hb : backOk ops = true) (Inv : (Nat → Bool) → FF → World → Prop) (h0 : Inv (fun _ => false) f w.drew)
    (hstep : ∀ i o, ops[i]? = some o → ∀ L f w, (∀ e ∈ o.after.toList, Region.binds .any e = true → L e.on = true) → L i = false → Inv L f w →
      OW P r n ops.toArray (fun e f' ds' w' => e = .normal ∧ ds' = ds ∧ Inv (setL L i) f' w') [o] f ds w)
    (hfin : ∀ L f w, (∀ i, i < ops.length → L i = true) → Inv L f w → K .normal f ds w) : CW P r n (.region id ops.toArray true) K f ds w := by
  refine wpIn_region_any hm ?_
  have key : ∀ (fuel : Nat) (listed : Array Bool) (f : FF) (w : World), listed.size = ops.length → (List.range ops.length).countP (fun j => !listed.getD j true) ≤ fuel → Inv (fun j => listed.getD j false) f w →
      wpAnyIn (Fw r) 0 P .any ops.toArray (QK n K) fuel listed ⟨Fr n f, ds⟩ w := by
    intro fuel
    have hready : ∀ (listed : Array Bool), listed.size = ops.length → Region.ready .any ops.toArray listed = [] → ∀ i, i < ops.length → listed.getD i false = true := by
      intro listed hsz hr i
      induction i using Nat.strongRecOn with
      | _ i ih =>
        intro hi
        cases hl : listed.getD i false with
        | true => rfl
        | false =>
          exfalso
          have hlt : listed.getD i true = false := by
            have : i < listed.size := by omega
            simp [Array.getD, this] at hl ⊢
            exact hl
          have : i ∈ Region.ready .any ops.toArray listed := by
            rw [mem_ready]
            refine ⟨hlt, ops[i], by simp [hi], fun e he hbd => ?_⟩
            have hb' := List.all_eq_true.1 hb i (by simp [hi])
            simp only [List.getElem?_eq_getElem hi] at hb'
            have := List.all_eq_true.1 hb' e (by simpa using he)
            simp only [hbd, Bool.not_true, Bool.false_or, Nat.blt_eq] at this
            exact ih e.on this (by omega)
          rw [hr] at this
          cases this
    induction fuel with
    | zero =>
      intro listed f w hsz hc hI
      have hall : ∀ i, i < ops.length → listed.getD i false = true := by
        intro i hi
        have h1 : ¬ (!listed.getD i true) = true := by
          intro hx
          have : 0 < (List.range ops.length).countP (fun j => !listed.getD j true) := List.countP_pos_iff.2 ⟨i, by simp [hi], hx⟩
          omega
        have : i < listed.size := by omega
        simp [Array.getD, this] at h1 ⊢
        exact h1
      refine ⟨?_, f, ds, rfl, hfin _ f w hall hI⟩
      rw [List.eq_nil_iff_forall_not_mem]
      intro i hi
      rw [mem_ready] at hi
      obtain ⟨h1, o, ho, _⟩ := hi
      have hlt : i < ops.length := by
        have := (Array.getElem?_eq_some_iff.1 ho).1
        simpa using this
      have := hall i hlt
      have h3 : i < listed.size := by omega
      simp [Array.getD, h3] at h1 this
      rw [this] at h1; cases h1
    | succ fuel ih =>
      intro listed f w hsz hc hI
      refine ⟨fun hr => ⟨f, ds, rfl, hfin _ f w (hready listed hsz hr) hI⟩, fun i hi => ?_⟩
      rw [mem_ready] at hi
      obtain ⟨h1, o, ho, hdep⟩ := hi
      have hlt : i < ops.length := by
        have := (Array.getElem?_eq_some_iff.1 ho).1
        simpa using this
      have hil : i < listed.size := by omega
      have hof : listed.getD i false = false := by
        simp [Array.getD, hil] at h1 ⊢; exact h1
      have hst := hstep i o (by simpa using ho) (fun j => listed.getD j false) f w (fun e he hbd => hdep e (by simpa using he) hbd) hof hI
      have hset : (fun j => (listed.setIfInBounds i true).getD j false) = setL (fun j => listed.getD j false) i := by
        funext j
        unfold setL
        by_cases e : j = i
        · subst e
          rw [beq_t, cond_true]
          simp [Array.getD, hil]
        · rw [beq_f e, cond_false]
          by_cases hj : j < listed.size
          · simp [Array.getD, hj, Array.getElem_setIfInBounds, Ne.symm e]
          · simp [Array.getD, hj]
      have hnext : ∀ f' w', Inv (setL (fun j => listed.getD j false) i) f' w' → wpAnyIn (Fw r) 0 P .any ops.toArray (QK n K) fuel (listed.setIfInBounds i true) ⟨Fr n f', ds⟩ w' := by
        intro f' w' hI'
        refine ih _ f' w' (by simp [hsz]) ?_ (by rw [hset]; exact hI')
        have := countP_lt (p := fun j => !(listed.setIfInBounds i true).getD j true) (q := fun j => !listed.getD j true) (List.range ops.length) (fun x hx => by
          by_cases e : x = i
          · subst e; simp [Array.getD, hil] at hx
          · by_cases hj : x < listed.size
            · simp [Array.getD, hj, Array.getElem_setIfInBounds, Ne.symm e] at hx ⊢; exact hx
            · simp [Array.getD, hj] at hx) i (by simp [hlt]) (by simp [Array.getD, hil]) (by simp [h1])
        omega
      unfold wpOpIn
      rw [ho]
      have hst' : wpListIn (Fw r) 0 P ops.toArray (QK n (fun e f' ds' w' => e = .normal ∧ ds' = ds ∧ Inv (setL (fun j => listed.getD j false) i) f' w')) [o] ⟨Fr n f, ds⟩ w := hst
      unfold wpListIn at hst'
      show (if Region.wanted o (yielded ops.toArray (Fr n f)) then _ else _)
      split
      · rename_i hw
        rw [if_pos hw] at hst'
        refine ⟨hst'.1, uponIn_mono2 ?_ ?_ ?_ hst'.2⟩
        · rintro a w' ⟨f', ds', rfl, _, rfl, hI'⟩
          exact hnext f' w' hI'
        · rintro ch a w' ⟨f', ds', _, hx, _⟩
          cases hx
        · rintro ⟨a, w2, f', ds', _, hx, _⟩
          cases hx
      · rename_i hw
        rw [if_neg hw] at hst'
        obtain ⟨h2, f', ds', he, _, rfl, hI'⟩ := hst'
        refine ⟨h2, ?_⟩
        rw [he]
        exact hnext f' w hI'
  refine key _ _ f _ (by simp) (by
    have := List.countP_le_length (p := fun j => !(Array.replicate ops.toArray.size false).getD j true) (l := List.range ops.length)
    simpa using this) ?_
  have : (fun j => (Array.replicate ops.toArray.size false).getD j false) = fun _ => false := by
    funext j
    by_cases hj : j < ops.length <;> simp [Array.getD, hj]
  rw [this]
  exact h0
/-- The frame while some operations of such a region are done. -/
def frL : List (Nat × Nat × Value) → (Nat → Bool) → FF → FF
  | [], _, f => f
  | (d, i, v) :: l, L, f => fun t => bif Nat.beq t d then (bif L i then v else f d) else frL l L f t
def frLook : List (Nat × Nat × Value) → Nat → Option (Nat × Value)
  | [], _ => none
  | (d, i, v) :: l, t => bif Nat.beq t d then some (i, v) else frLook l t
theorem fG {L : Nat → Bool} {f : FF} {t i : Nat} {v : Value} : ∀ {dl : List (Nat × Nat × Value)}, frLook dl t = some (i, v) → L i = true → frL dl L f t = v
  | [], h, _ => by cases h
  | (d, j, u) :: dl, h, hL => by
    unfold frLook at h
    unfold frL
    by_cases e : t = d
    · subst e
      rw [beq_t, cond_true] at h
      cases h
      simp [hL]
    · rw [beq_f e, cond_false] at h
      simp only [beq_f e, cond_false]
      exact fG h hL
def frUniq : List (Nat × Nat × Value) → Nat → Nat → Bool
  | [], _, _ => true
  | (d, i, _) :: l, d0, i0 => (Nat.beq d d0 || !Nat.beq i i0) && frUniq l d0 i0
theorem fS {L : Nat → Bool} {f : FF} {d i : Nat} {v : Value} : ∀ {dl : List (Nat × Nat × Value)}, frLook dl d = some (i, v) → frUniq dl d i = true → upd (frL dl L f) d v = frL dl (setL L i) f
  | dl, h, hu => by
    funext t
    have h1 : ∀ (dl : List (Nat × Nat × Value)) (t : Nat), t ≠ d → frUniq dl d i = true → frL dl L f t = frL dl (setL L i) f t := by
      intro dl
      induction dl with
      | nil => intro t _ _; rfl
      | cons a dl ih =>
        obtain ⟨d2, j, u⟩ := a
        intro t ht hu
        simp only [frUniq, Bool.and_eq_true, Bool.or_eq_true, Bool.not_eq_true'] at hu
        unfold frL
        by_cases e : t = d2
        · subst e
          simp only [beq_t, cond_true]
          have hji : Nat.beq j i = false := by
            rcases hu.1 with hx | hx
            · exact absurd (Nat.eq_of_beq_eq_true hx) ht
            · exact hx
          simp [setL, hji]
        · simp only [beq_f e, cond_false]
          exact ih t ht hu.2
    by_cases e : t = d
    · subst e
      rw [upd_same, fG h (by simp [setL, beq_t])]
    · rw [upd_other _ _ e, h1 dl t e hu]
theorem frL_no {L : Nat → Bool} {f : FF} {i : Nat} : ∀ {dl : List (Nat × Nat × Value)}, (dl.all fun x => !Nat.beq x.2.1 i) = true → frL dl L f = frL dl (setL L i) f
  | [], _ => rfl
  | (d, j, u) :: dl, h => by
    simp only [List.all_cons, Bool.and_eq_true, Bool.not_eq_true'] at h
    funext t
    unfold frL
    rw [frL_no (L := L) (f := f) h.2]
    simp [setL, h.1]
theorem frL_ff {f : FF} : ∀ (dl : List (Nat × Nat × Value)), frL dl (fun _ => false) f = f
  | [] => rfl
  | (d, j, u) :: dl => by
    funext t
    unfold frL
    rw [frL_ff dl]
    by_cases e : t = d
    · subst e; simp
    · simp [beq_f e]
def updAll : List (Nat × Nat × Value) → FF → FF
  | [], f => f
  | (d, _, v) :: l, f => upd (updAll l f) d v
theorem frL_tt {L : Nat → Bool} {f : FF} {m : Nat} : ∀ (dl : List (Nat × Nat × Value)), (dl.all fun x => Nat.blt x.2.1 m) = true → (∀ i, i < m → L i = true) → frL dl L f = updAll dl f
  | [], _, _ => rfl
  | (d, j, u) :: dl, h, hL => by
    simp only [List.all_cons, Bool.and_eq_true, Nat.blt_eq] at h
    funext t
    unfold frL updAll upd
    rw [frL_tt dl h.2 hL, hL j h.1]
    rfl
end
end Go.HL
