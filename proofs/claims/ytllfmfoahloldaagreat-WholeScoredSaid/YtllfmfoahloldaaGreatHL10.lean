/- Ranges over functions, in the walks' own terms: the loop's record and the block of its deferred calls as resources; they hold of every program. -/
import Derived.Test.YtllfmfoahloldaaGreatHL9
import Derived.RangeFuncRecord
import Derived.Laws.BitsLemmas
set_option linter.unusedVariables false
set_option linter.unusedSimpArgs false
set_option linter.unusedSectionVars false
namespace Go.HL
open Go.RowKit
theorem w64_id {x : Int} (h0 : -9223372036854775808 ≤ x) (h1 : x < 9223372036854775808) : w64 x = x := by
  show IntKind.i64.wrap x = x
  rw [IntKind.wrap_i64]; omega
/-- A block that holds an object. -/
def ob (b : Nat) (o : Obj) : HP := fun g => g b = some o
section
variable {P : Program} {r : Option Nat} {n : Nat} {K : KK} {f : FF} {ds : List Deferred} {w w' : World} {all : Array Oper} {rest : List Oper}
variable {T : TypeId} {pos : String} {af : Array Edge} {d : Nat} {I : Im} {L : List HP} {x y : Operand}
theorem Sat.ob {k b : Nat} {o : Obj} (hs : Sat I L w) (hk : L[k]? = some (HL.ob b o)) : w.heap[b]? = some o := by
  obtain ⟨g, hg, hgg, _⟩ := hs.focus hk
  exact (hgg b _ hg).1
theorem Sat.putOb {k b : Nat} {o : Obj} (hs : Sat I L w) (hk : L[k]? = some (HL.ob b o)) (o' : Obj) : Sat I (L.set k (HL.ob b o')) (w.putObj b o') := by
  have hb := hs.ob hk
  obtain ⟨g, hg, hgg, hclose⟩ := hs.focus hk
  refine hclose _ (fun b' => if b' = b then some o' else none) _ (by simp [HL.ob]) rfl rfl ⟨rfl, Nat.le_refl _⟩ ?_ ?_ ?_
  · intro b' o2 e
    split at e
    · rename_i hb'
      subst hb'
      cases e
      exact World.putObj_heap_same (lt_of_heap hb)
    · cases e
  · intro b' hb'
    split at hb'
    · rename_i e; subst e; exact .inl (by rw [show g b' = _ from hg]; rfl)
    · cases hb'
  · intro b' hlt hn
    refine World.putObj_heap_other fun e => ?_
    subst e
    rw [show g b' = _ from hg] at hn
    cases hn
abbrev lrec (fn : FuncId) (n : Nat) (f : FF) (ps : List Tmp) (assign body : Code) (D : Nat) : Loop := { state := .ready, pending := none, fn, tmps := Fr n f, params := ps.toArray, assign, body, defers := D }
abbrev lbusy (rc : Loop) : Loop := { rc with state := .busy }
abbrev mark (D : Nat) : Deferred := { target := .collected D, args := #[] }
/-- A loop over a function, none of whose rounds leaves it. -/
theorem cw_range {g : Operand} {ps : List Tmp} {assign body : Code} {gf : FuncId} {ca : List Value} (hs : Sat I L w) (hg : ev n f g = .func (.func gf) #[] ca.toArray) (hE : Go.Proofs.Enters P gf)
    (h : ∀ l D fn OB w1, OB = HL.ob l (.loop (lrec fn n f ps assign body D)) → Sat I (OB :: HL.ob D (.deferred (some [])) :: L) w1 →
      CV P gf (.func (.yield l) #[] #[] :: ca) w1 (fun _ w2 => ∃ J L', Sat J (OB :: L') w2 ∧ ∀ w3, Sat J L' w3 → K .normal f (mark D :: ds) w3)) :
    CW P none n (.rangeFunc g ps.toArray assign body) K f ds w := by
  refine wpIn_rangeFunc fun fn _ => ?_
  refine ⟨w.heap.size + 1, [mark w.heap.size], (w.alloc (.deferred (some []))).alloc (.loop (lrec fn n f ps assign body w.heap.size)), ⟨.fn (.func gf) ca.toArray, #[.func (.yield (w.heap.size + 1)) #[] #[]]⟩, ((w.alloc (.deferred (some []))).alloc (.loop (lrec fn n f ps assign body w.heap.size))), gf, ((.func (.yield (w.heap.size + 1)) #[] #[] :: ca : List Value)).toArray, ((w.alloc (.deferred (some []))).alloc (.loop (lrec fn n f ps assign body w.heap.size))), run_enterLoop_outer fn (Fr n f) ps.toArray assign body, ?_, fun _ _ => trivial, ?_, fun hd => by simp [Fw] at hd, ?_⟩
  · simp only [rangeCall, resolve, eval_Fr, hg, Deferred.ofValue]
    simp
    rfl
  · have := hE ((.func (.yield (w.heap.size + 1)) #[] #[] :: ca : List Value)).toArray ((w.alloc (.deferred (some []))).alloc (.loop (lrec fn n f ps assign body w.heap.size)))
    simpa [invoke] using this
  · have h1 : Sat I (HL.ob w.heap.size (.deferred (some [])) :: L) (w.alloc (.deferred (some []))) := hs.push _ _ (by simp [HL.ob])
    have h2 := h1.push (.loop (lrec fn n f ps assign body w.heap.size)) (HL.ob (w.heap.size + 1) (.loop (lrec fn n f ps assign body w.heap.size))) (by simp [HL.ob, World.size_alloc])
    refine callsIn_Fw (r := none) _ (Calls.mono (h _ _ fn _ _ rfl h2) ?_)
    rintro e w2 ⟨v, rfl, J, L', hs2, hk⟩
    have hb := hs2.ob (k := 0) rfl
    refine ⟨none, _, run_endLoop hb (by simp), ?_⟩
    exact ⟨f, mark w.heap.size :: ds, rfl, hk _ (hs2.putOb (k := 0) rfl _).tail⟩
/-- What a call of yield comes to. -/
def YC (P : Program) (l : Nat) (args : List Value) (Post : Value → World → Prop) (w : World) : Prop :=
  ∃ fn tmps assign body w1, (Instr.yield l args.toArray).run P w = .ok (.round l fn tmps assign body) w1 ∧ RoundIn (Fw none) 0 P l fn tmps assign body w1 (fun e w' => ∃ v, e = .returned v ∧ Post v w')
def updPs : FF → List (Tmp × Value) → FF
  | f, [] => f
  | f, (t, v) :: l => updPs (upd f t v) l
theorem foldl_Fr : ∀ (l : List (Tmp × Value)) (f : FF), l.foldl (fun tmps (x : Tmp × Value) => tmps.setIfInBounds x.1 x.2) (Fr n f) = Fr n (updPs f l)
  | [], f => rfl
  | (t, v) :: l, f => by
    rw [List.foldl_cons, Fr_set]
    exact foldl_Fr l (upd f t v)
theorem yc_of {l k D : Nat} {fn : FuncId} {ps : List Tmp} {assign body : Code} {args : List Value} {OB : HP} {Post : Value → World → Prop} (hs : Sat I L w) (hOB : OB = HL.ob l (.loop (lrec fn n f ps assign body D))) (hk : L[k]? = some OB) (hp : args.length = ps.length)
    (h : CW P (some l) n assign (fun e f1 ds1 w1 => e = .normal ∧ ∃ J k' L1, Sat J L1 w1 ∧ L1[k']? = some OB ∧
      ∀ BB w2, Sat J (L1.set k' BB) w2 → CW P (some l) n body (fun e f2 ds2 w3 => e = .normal ∧ ∃ J2 k2 L2, Sat J2 L2 w3 ∧ L2[k2]? = some BB ∧
        ∀ w4, Sat J2 (L2.set k2 OB) w4 → Post (.bool true) w4) f1 ds1 w2) (updPs f (ps.zip args)) [] w) : YC P l args Post w := by
  subst hOB
  have hb := hs.ob hk
  refine ⟨fn, _, assign, body, w, run_yield hb (by simpa using hp), ?_⟩
  refine roundIn_of_wpIn trivial ?_
  have e : (ps.toArray.zip args.toArray).foldl (fun tmps (t, a) => tmps.setIfInBounds t a) (Fr n f) = Fr n (updPs f (ps.zip args)) := by
    have := foldl_Fr (n := n) (ps.zip args) f
    rw [← this]
    simp [List.zip_toArray]
  rw [show ((lrec fn n f ps assign body D).params.zip args.toArray).foldl (fun tmps (t, a) => tmps.setIfInBounds t a) (lrec fn n f ps assign body D).tmps = Fr n (updPs f (ps.zip args)) from e]
  refine wpIn_mono h ?_
  rintro e a w1 ⟨f1, ds1, rfl, rfl, J, k', L1, hs1, hk1, hbody⟩
  have hb1 := hs1.ob hk1
  refine ⟨_, run_beginRound hb1 rfl, ?_⟩
  refine wpIn_mono (hbody _ _ (hs1.putOb hk1 _)) ?_
  rintro e a w3 ⟨f2, ds2, rfl, rfl, J2, k2, L2, hs2, hk2, hend⟩
  have hb2 := hs2.ob hk2
  exact ⟨_, _, run_endRound none hb2, _, rfl, hend _ (hs2.putOb hk2 _)⟩
/-- Rounds, counted. -/
def itFrom {S : Type} (step : Nat → S → Option S) : Nat → Nat → S → Option S
  | _, 0, s => some s
  | j, k + 1, s => (step j s).bind (itFrom step (j + 1) k)
theorem it_succ {S : Type} {step : Nat → S → Option S} {j k m : Nat} {s r : S} (hk : m = k + 1) (h : itFrom step j m s = some r) : ∃ s', step j s = some s' ∧ itFrom step (j + 1) k s' = some r := by
  subst hk
  exact bS h
theorem ow_yield {dst : Option Nat} {xf : Operand} {l : Nat} {vs : List Value} {ops : List Operand} {ts : Array TypeId} {Post : Value → World → Prop} (hf : ev n f xf = .func (.yield l) #[] #[]) (ha : EvL n f ops vs)
    (hc : YC P l vs Post w) (h : ∀ v w', Post v w' → OW P none n all K rest (updO f dst v) ds w') : OW P none n all K (⟨dst, .call ⟨.value xf, ops.toArray, ts⟩, T, pos, af, none⟩ :: rest) f ds w := by
  obtain ⟨fn, tmps, assign, body, w1, hy, hr⟩ := hc
  refine wpListIn_step rfl ⟨fun _ _ => trivial, ?_⟩
  rw [semAt_nd _ _ rfl, eval_Fr]
  have hrun : (execOp (ev n f) ⟨dst, .call ⟨.value xf, ops.toArray, ts⟩, T, pos, af, none⟩).run P w = .ok (.round l fn tmps assign body) w1 := by
    have hm := ha.map
    simp only [execOp, resolve, List.map_toArray, hm, hf, Deferred.ofValue, Sem.run_bind, Sem.run_pure, Result.andThen_ok, invoke]
    simpa using hy
  rw [hrun, Oper.uponIn_round]
  refine ⟨fun hd => by simp [Fw] at hd, RoundIn.mono hr ?_⟩
  rintro e w' ⟨v, rfl, hp⟩
  show wpListIn _ _ _ _ _ _ _ _
  rw [put_Fr]
  exact h v w' hp
/-- What stands behind the return of a function that holds a loop over a function. -/
def LM (P : Program) (fn : Func) (n : Nat) (f : FF) (Post : Value → World → Prop) : List Deferred → World → Prop
  | [], w => ∃ v, (results fn (Fr n f)).run P w = .ok v w ∧ Post v w
  | d :: ds, w => ∃ D w', d = mark D ∧ (Instr.takeDeferred D).run P w = .ok [] w' ∧ LM P fn n f Post ds w'
def retKM (P : Program) (fn : Func) (n : Nat) (Post : Value → World → Prop) : KK := fun e f ds w => (e = .normal ∨ e = .ret) ∧ LM P fn n f Post ds w
theorem LM.leaves {fn : Func} {Post : Value → World → Prop} : ∀ {ds : List Deferred} {w : World}, LM P fn n f Post ds w → LeavesInM (Fw none) 0 P fn (Fr n f) (fun e w' => ∃ v, e = .returned v ∧ Post v w') ds .returning w
  | [], w, ⟨v, h1, h2⟩ => ⟨v, h1, v, rfl, h2⟩
  | d :: ds, w, ⟨D, w', h1, h2, h3⟩ => ⟨by simp, .inl ⟨D, w', by rw [h1], h2, h3.leaves⟩⟩
theorem cv_ofM {k : FuncId} {fn : Func} {cd : Code} {args : List Value} {Post : Value → World → Prop} (hf : P.funcs[k]? = some fn) (hb : fn.body = some cd) (hn : fn.ntmps = n) (hl : args.length ≤ n)
    (h : CW P none n cd (retKM P fn n Post) (argF args) [] w) : CV P k args w Post := by
  refine callsIn_wide (n := 0).1 (callsIn_of_wp_marks hf hb trivial ?_ rfl)
  rw [hn, Fr_args args n hl]
  refine wpIn_mono h ?_
  rintro e a w' ⟨f', ds', rfl, he, hm⟩
  rcases he with rfl | rfl
  · exact hm.leaves
  · exact hm.leaves
theorem ret_okM {fn : Func} {rs : List ResultVar} {vs : List Value} {Post : Value → World → Prop} {ex : Exit} (he : ex = .normal ∨ ex = .ret) (hr : fn.results = rs.toArray) (h : RV P n f w rs vs) (hp : Post (retV vs) w) : retKM P fn n Post ex f [] w :=
  ⟨he, retV vs, run_results hr h, hp⟩
theorem ret_mark {fn : Func} {Post : Value → World → Prop} {ex : Exit} {k D : Nat} (hs : Sat I L w) (hk : L[k]? = some (HL.ob D (.deferred (some []))))
    (h : ∀ w', Sat I (L.eraseIdx k) w' → retKM P fn n Post ex f ds w') : retKM P fn n Post ex f (mark D :: ds) w := by
  have hb := hs.ob hk
  have h1 := hs.putOb hk (.deferred none)
  have h2 : Sat I (L.eraseIdx k) (w.putObj D (.deferred none)) := by
    have := h1.erase k
    rwa [List.eraseIdx_set_eq] at this
  have := h _ h2
  exact ⟨this.1, D, _, rfl, run_takeDeferred hb, this.2⟩
end
end Go.HL
