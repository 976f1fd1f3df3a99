/- Joins, tests, and what a printed function's equation is taken apart with; they hold of every program. -/
import Derived.Test.YtllfmfoahloldaaGreatHL6
set_option linter.unusedVariables false
set_option linter.unusedSimpArgs false
set_option linter.unusedSectionVars false
namespace Go.HL
open Go.RowKit
/-! ### Partial functions -/
theorem iS {α : Type} {c : Prop} [Decidable c] {x : Option α} {r : α} (h : (if c then x else none) = some r) : c ∧ x = some r := by
  split at h
  · exact ⟨‹_›, h⟩
  · cases h
theorem bS {α β : Type} {x : Option α} {f : α → Option β} {r : β} (h : x.bind f = some r) : ∃ y, x = some y ∧ f y = some r := by
  cases x with
  | none => cases h
  | some y => exact ⟨y, rfl, h⟩
theorem map_some' {α β : Type} {x : Option α} {f : α → β} {r : β} (h : x.map f = some r) : ∃ y, x = some y ∧ f y = r := by
  cases x with
  | none => cases h
  | some y => exact ⟨y, rfl, by simpa using h⟩
/-- A part that goes on, or ends. -/
def lb {S R T : Type} (x : Option (Sum S R)) (g : R → T) (f : S → Option T) : Option T :=
  match x with
  | none => none
  | some (.inl s) => f s
  | some (.inr r) => some (g r)
def LRel {S R T : Type} (o : Sum S R) (g : R → T) (f : S → Option T) (t : T) : Prop :=
  match o with
  | .inl s => f s = some t
  | .inr r => g r = t
theorem lb_some {S R T : Type} {x : Option (Sum S R)} {g : R → T} {f : S → Option T} {t : T} (h : lb x g f = some t) : ∃ o, x = some o ∧ LRel o g f t := by
  match x, h with
  | some (.inl s), h => exact ⟨_, rfl, h⟩
  | some (.inr r), h => exact ⟨_, rfl, Option.some.inj h⟩
theorem lexit {S R T : Type} {s : S} {o : Sum S R} {g : R → T} {f : S → Option T} {t : T} (h : some (Sum.inl s) = some o) (k : LRel o g f t) : f s = some t := by cases h; exact k
theorem lret {S R T : Type} {rv : R} {o : Sum S R} {g : R → T} {f : S → Option T} {t : T} (h : some (Sum.inr rv) = some o) (k : LRel o g f t) : some (g rv) = some t := by cases h; exact congrArg some k
/-! ### Integers -/
abbrev w64 (x : Int) : Int := IntKind.i64.wrap x
def at' {E : Type} [Inhabited E] (xs : List E) (i : Int) : E := xs.getD i.toNat default
def e64 (x : Int) : List Value := [.int .i64 x]
def e8 (x : Int) : List Value := [.int .u8 x]
def eB (x : Bool) : List Value := [.bool x]
theorem flat_len {E : Type} (enc : E → List Value) (sz : Nat) (h : ∀ x, (enc x).length = sz) : ∀ xs : List E, (xs.flatMap enc).length = xs.length * sz
  | [] => by simp
  | x :: xs => by rw [List.flatMap_cons, List.length_append, h, flat_len enc sz h xs, List.length_cons, Nat.succ_mul]; omega
theorem flat_drop {E : Type} (enc : E → List Value) (sz : Nat) (h : ∀ x, (enc x).length = sz) : ∀ (xs : List E) (i : Nat), (xs.flatMap enc).drop (i * sz) = (xs.drop i).flatMap enc
  | xs, 0 => by simp
  | [], i + 1 => by simp
  | x :: xs, i + 1 => by
    rw [List.flatMap_cons, List.drop_succ_cons, List.drop_append, Nat.succ_mul, h]
    have : (enc x).drop (i * sz + sz) = [] := List.drop_of_length_le (by rw [h]; omega)
    rw [this, List.nil_append, show i * sz + sz - sz = i * sz by omega, flat_drop enc sz h xs i]
theorem flat_at {E : Type} [Inhabited E] {enc : E → List Value} {sz : Nat} (h : ∀ x, (enc x).length = sz) (xs : List E) (i : Int) (h0 : 0 ≤ i) (h1 : i < (xs.length : Int)) (off m : Nat) (hm : off + m ≤ sz) :
    ((xs.flatMap enc).drop (i.toNat * sz + off)).take m = ((enc (at' xs i)).drop off).take m := by
  rw [← List.drop_drop, flat_drop enc sz h]
  have hi : i.toNat < xs.length := by omega
  rw [List.drop_eq_getElem_cons hi, List.flatMap_cons]
  have : at' xs i = xs[i.toNat] := by simp [at', hi]
  rw [this, List.drop_append, List.take_append, h]
  have e1 : (enc xs[i.toNat]).length = sz := h _
  have : m - ((enc xs[i.toNat]).drop off).length = 0 := by rw [List.length_drop, e1]; omega
  rw [this, List.take_zero, List.append_nil]
theorem flat_set {E : Type} {enc : E → List Value} {sz : Nat} (h : ∀ x, (enc x).length = sz) (x : E) : ∀ (xs : List E) (i : Nat), i < xs.length →
    (xs.flatMap enc).take (i * sz) ++ enc x ++ (xs.flatMap enc).drop (i * sz + sz) = (xs.set i x).flatMap enc
  | [], _, hi => by simp at hi
  | y :: ys, 0, _ => by
    simp [List.drop_append, h]
  | y :: ys, i + 1, hi => by
    have ih := flat_set h x ys i (by simpa using hi)
    have hy := h y
    rw [List.set_cons_succ, List.flatMap_cons, List.flatMap_cons, ← ih, Nat.succ_mul]
    rw [List.take_append, List.drop_append, hy]
    have e1 : (enc y).take (i * sz + sz) = enc y := List.take_of_length_le (by omega)
    have e2 : (enc y).drop (i * sz + sz + sz) = [] := List.drop_of_length_le (by omega)
    rw [e1, e2, show i * sz + sz - sz = i * sz by omega, show i * sz + sz + sz - sz = i * sz + sz by omega]
    simp [List.append_assoc]
section
variable {P : Program} {r : Option Nat} {n : Nat} {K : KK} {f : FF} {ds : List Deferred} {w w' : World} {all : Array Oper} {rest : List Oper}
variable {T : TypeId} {pos : String} {af : Array Edge} {d : Nat} {I : Im} {l : List HP} {t : TypeId} {agg : Bool} {zero : List Value} {x y : Operand}
variable {dd : Option Nat} {gg : Option (Nat × Bool)} {ρ : Operand → Value}
theorem x_neqD {k : IntKind} {a b : Int} {T1 T2 : TypeId} (hx : ρ x = .int k a) (hy : ρ y = .int k b) : (execOp ρ ⟨dd, .binOp .neq T1 x y T2, T, pos, af, gg⟩).run P w = .ok (.value (.bool (decide (¬ a = b)))) w := by
  rw [decide_not]; exact x_neq hx hy
theorem x_notD {p : Prop} [Decidable p] {T1 : TypeId} (hx : ρ x = .bool (decide p)) : (execOp ρ ⟨dd, .unOp .not T1 x, T, pos, af, gg⟩).run P w = .ok (.value (.bool (decide (¬ p)))) w := by
  rw [decide_not]; exact x_not hx
theorem cIt {c : Operand} {a b : Code} {e : Bool} (H : ev n f c = .bool e) (E : e = true) (h : CW P r n a K f ds w) : CW P r n (.cond c a b) K f ds w := cw_cond_t (H.trans (congrArg Value.bool E)) h
theorem cIf {c : Operand} {a b : Code} {e : Bool} (H : ev n f c = .bool e) (E : e = false) (h : CW P r n b K f ds w) : CW P r n (.cond c a b) K f ds w := cw_cond_f (H.trans (congrArg Value.bool E)) h
/-- Several ways that come together. -/
def joinK (S : FF → List Deferred → World → Prop) (K : KK) : KK
  | .normal, f, ds, w => S f ds w
  | e, f, ds, w => K e f ds w
theorem cJ {a b : Code} (S : FF → List Deferred → World → Prop) (h1 : CW P r n a (joinK S K) f ds w) (h2 : ∀ f ds w, S f ds w → CW P r n b K f ds w) : CW P r n (.seq a b) K f ds w :=
  cQ (h1.mono fun e f ds w k => by cases e <;> first | exact h2 _ _ _ k | exact k)
theorem jN {S : FF → List Deferred → World → Prop} (h : S f ds w) : joinK S K .normal f ds w := h
theorem joinK_r {S : FF → List Deferred → World → Prop} (h : K .ret f ds w) : joinK S K .ret f ds w := h
theorem joinK_x {S : FF → List Deferred → World → Prop} {id : Nat} (h : K (.exit id) f ds w) : joinK S K (.exit id) f ds w := h
def onlyK (S : FF → List Deferred → World → Prop) : KK
  | .normal, f, ds, w => S f ds w
  | _, _, _, _ => False
theorem onlyK_n {S : FF → List Deferred → World → Prop} (h : S f ds w) : onlyK S .normal f ds w := h
theorem wpListIn_app {Q : Exit → Act → World → Prop} : ∀ (l1 l2 : List Oper) (a : Act) (w : World), wpListIn (Fw r) 0 P all (Exit.then (fun a w => wpListIn (Fw r) 0 P all Q l2 a w) (fun _ _ _ => False)) l1 a w → wpListIn (Fw r) 0 P all Q (l1 ++ l2) a w
  | [], l2, a, w, h => h
  | o :: l1, l2, a, w, h => by
    rw [List.cons_append]
    unfold wpListIn at h ⊢
    split
    · rename_i hw
      rw [if_pos hw] at h
      exact ⟨h.1, uponIn_mono2 (fun a w k => wpListIn_app l1 l2 a w k) (fun ch a w k => k) (fun k => by obtain ⟨a, w, k⟩ := k; exact k) h.2⟩
    · rename_i hw
      rw [if_neg hw] at h
      exact ⟨h.1, wpListIn_app l1 l2 _ _ h.2⟩
theorem ow_join {l1 l2 : List Oper} (S : FF → List Deferred → World → Prop) (h1 : OW P r n all (onlyK S) l1 f ds w) (h2 : ∀ f ds w, S f ds w → OW P r n all K l2 f ds w) : OW P r n all K (l1 ++ l2) f ds w := by
  refine wpListIn_app l1 l2 _ _ ?_
  have key : ∀ (l : List Oper) (a : Act) (w : World), wpListIn (Fw r) 0 P all (QK n (onlyK S)) l a w → wpListIn (Fw r) 0 P all (Exit.then (fun a w => wpListIn (Fw r) 0 P all (QK n K) l2 a w) (fun _ _ _ => False)) l a w := by
    intro l
    induction l with
    | nil =>
      rintro a w ⟨f', ds', rfl, k⟩
      exact h2 _ _ _ k
    | cons o l ih =>
      intro a w h
      unfold wpListIn at h ⊢
      split
      · rename_i hw
        rw [if_pos hw] at h
        exact ⟨h.1, uponIn_mono2 (fun a w k => ih a w k) (fun ch a w k => by obtain ⟨_, _, _, k⟩ := k; exact k) (fun k => by obtain ⟨a, w, _, _, _, k⟩ := k; exact k) h.2⟩
      · rename_i hw
        rw [if_neg hw] at h
        exact ⟨h.1, ih _ _ h.2⟩
  exact key l1 _ _ h1
theorem ow_no' {op : Op} {dst : Option Nat} {j : Nat} {want : Bool} (hw : yl all n f j = none) (h : OW P r n all K rest (updO f dst undef) ds w) :
    OW P r n all K (⟨dst, op, T, pos, af, some (j, want)⟩ :: rest) f ds w := by
  show wpListIn _ _ _ _ _ _ _ _
  unfold wpListIn
  rw [if_neg (by simp [Region.wanted, yielded_Fr, hw])]
  refine ⟨fun _ _ => trivial, ?_⟩
  rw [put_Fr]
  exact h
theorem yO {j d : Nat} {e : Bool} {b : Bool} (h1 : (all[j]?).bind (·.dst) = some d) (H : ev n f (.tmp d) = .bool e) (E : e = b) : yl all n f j = some b := by
  unfold yl; rw [h1]; simp only; rw [H, E]
theorem yl_undef {j d : Nat} (h1 : (all[j]?).bind (·.dst) = some d) (H : ev n f (.tmp d) = undef) : yl all n f j = none := by
  unfold yl; rw [h1]; simp only; rw [H]; rfl
/-! ### Draws, operation by operation -/
def deps (o : Oper) : List Nat := (o.after.toList.filter (Region.binds .any)).map (·.on)
def depsT (L : Nat → Bool) : List Nat → Prop
  | [] => True
  | j :: l => L j = true ∧ depsT L l
def DSteps (S : Nat → Oper → Prop) : Nat → List Oper → Prop
  | _, [] => True
  | i, o :: l => S i o ∧ DSteps S (i + 1) l
theorem DSteps.get {S : Nat → Oper → Prop} : ∀ {l : List Oper} {k : Nat}, DSteps S k l → ∀ (i : Nat) (o : Oper), l[i]? = some o → S (k + i) o
  | [], _, _, i, o, h => by simp at h
  | a :: l, k, ⟨h1, h2⟩, 0, o, h => by simp at h; subst h; exact h1
  | a :: l, k, ⟨h1, h2⟩, i + 1, o, h => by
    have := DSteps.get h2 i o (by simpa using h)
    rw [show k + (i + 1) = k + 1 + i by omega]; exact this
theorem depsT_of (L : Nat → Bool) : ∀ (l : List Edge), (∀ e ∈ l, Region.binds .any e = true → L e.on = true) → depsT L ((l.filter (Region.binds .any)).map (·.on))
  | [], _ => trivial
  | e :: l, h => by
    rw [List.filter_cons]
    split
    · rename_i hb
      exact ⟨h e (by simp) hb, depsT_of L l fun e he => h e (by simp [he])⟩
    · exact depsT_of L l fun e he => h e (by simp [he])
theorem cD (hm : P.follows .mixedOrders = true) {id : Nat} {ops : List Oper} (hb : backOk ops = true) (Inv : FF → (Nat → Bool) → FF → World → Prop) (h0 : Inv f (fun _ => false) f w.drew)
    (hstep : DSteps (fun i o => ∀ L f' w, depsT L (deps o) → L i = false → Inv f L f' w → OW P r n ops.toArray (fun e f'' ds' w' => e = .normal ∧ ds' = ds ∧ Inv f (setL L i) f'' w') [o] f' ds w) 0 ops)
    (hfin : ∀ L f' w, (∀ i, i < ops.length → L i = true) → Inv f L f' w → K .normal f' ds w) : CW P r n (.region id ops.toArray true) K f ds w := by
  refine cw_draw hm hb (Inv f) h0 ?_ hfin
  intro i o ho L f' w hd hL hI
  have := hstep.get i o ho L f' w (depsT_of L _ hd)
  rw [Nat.zero_add] at this
  exact this hL hI
def dlSet : List (Nat × Nat × Value) → Nat → Value → List (Nat × Nat × Value)
  | [], _, _ => []
  | (d, i, u) :: l, j, v => (bif Nat.beq i j then (d, i, v) else (d, i, u)) :: dlSet l j v
theorem fSG {L : Nat → Bool} {f : FF} {d i : Nat} {u v : Value} {dl : List (Nat × Nat × Value)} (h : frLook dl d = some (i, u)) (hu : frUniq dl d i = true) : upd (frL dl L f) d v = frL (dlSet dl i v) (setL L i) f := by
  funext t
  have h1 : ∀ (dl : List (Nat × Nat × Value)) (t : Nat), t ≠ d → frUniq dl d i = true → frL dl L f t = frL (dlSet dl i v) (setL L i) f t := by
    intro dl
    induction dl with
    | nil => intro t _ _; rfl
    | cons a dl ih =>
      obtain ⟨d2, j, u⟩ := a
      intro t ht hu
      simp only [frUniq, Bool.and_eq_true, Bool.or_eq_true, Bool.not_eq_true'] at hu
      unfold frL dlSet
      by_cases e : t = d2
      · subst e
        have hji : Nat.beq j i = false := by
          rcases hu.1 with hx | hx
          · exact absurd (Nat.eq_of_beq_eq_true hx) ht
          · exact hx
        simp [setL, hji, beq_t]
      · have := ih t ht hu.2
        cases hji : Nat.beq j i <;> simp [beq_f e, this]
  have h2 : ∀ (dl : List (Nat × Nat × Value)), frLook dl d = some (i, u) → frL (dlSet dl i v) (setL L i) f d = v := by
    intro dl
    induction dl with
    | nil => intro h; cases h
    | cons a dl ih =>
      obtain ⟨d2, j, u2⟩ := a
      intro h
      unfold frLook at h
      unfold frL dlSet
      by_cases e : d = d2
      · subst e
        rw [beq_t, cond_true] at h
        cases h
        simp [setL, beq_t]
      · rw [beq_f e, cond_false] at h
        have := ih h
        cases hji : Nat.beq j i <;> simp [beq_f e, this]
  by_cases e : t = d
  · subst e
    rw [upd_same, h2 dl h]
  · rw [upd_other _ _ e, h1 dl t e hu]
theorem fD {L : Nat → Bool} {f : FF} {i : Nat} {u v : Value} : ∀ {dl : List (Nat × Nat × Value)}, L i = false → frL dl L f = frL (dlSet dl i v) L f
  | [], _ => rfl
  | (d, j, u) :: dl, h => by
    funext t
    have := congrFun (fD (f := f) (u := u) (v := v) (dl := dl) h) t
    unfold frL dlSet
    cases hji : Nat.beq j i with
    | true =>
      have := Nat.eq_of_beq_eq_true hji
      subst this
      simp [h, this]
    | false =>
      simp [this]
/-- A resource into an empty place. -/
theorem Parts.setE : ∀ {l : List HP} {D : Nat → Prop} {w : World} {k : Nat} {p : HP}, Parts (p :: l) D w → l[k]? = some emp → Parts (l.set k p) D w
  | [], _, _, _, _, _, hk => by simp at hk
  | q :: l, D, w, 0, p, ⟨g, hg, hgg, ⟨g2, _, _, hr⟩⟩, hk => ⟨g, hg, hgg, hr.anti fun b x => by rcases x with x | x; exact .inl (.inl x); exact .inl (.inr x)⟩
  | q :: l, D, w, k + 1, p, ⟨g, hg, hgg, ⟨g2, hg2, hgg2, hr⟩⟩, hk => by
    refine ⟨g2, hg2, fun b o e => ⟨(hgg2 b o e).1, fun x => (hgg2 b o e).2 (.inl x)⟩, ?_⟩
    refine Parts.setE (p := p) ⟨g, hg, fun b o e => ⟨(hgg b o e).1, fun x => ?_⟩, hr.anti fun b x => ?_⟩ (by simpa using hk)
    · rcases x with x | x
      · exact (hgg b o e).2 x
      · obtain ⟨o2, ho2⟩ := Option.isSome_iff_exists.1 x
        exact (hgg2 b o2 ho2).2 (.inr (by rw [e]; rfl))
    · rcases x with (x | x) | x
      · exact .inl (.inl x)
      · exact .inr x
      · exact .inl (.inr x)
theorem Sat.setE {p : HP} {k : Nat} (h : Sat I (p :: l) w) (hk : l[k]? = some emp) : Sat I (l.set k p) w := ⟨h.imm, h.os, h.tape, h.output, h.own.setE hk⟩
theorem Sat.pushEmp (hs : Sat I l w) : Sat I (emp :: l) w := hs.pushE trivial
end
end Go.HL
