/- The hidden heap: an immutable part and a list of resources; what each operation on memory does to it; it holds of every program. -/
import Derived.Test.YtllfmfoahloldaaGreatHL2
import Derived.Below
set_option linter.unusedVariables false
set_option linter.unusedSimpArgs false
set_option linter.unusedSectionVars false
namespace Go.HL
open Go.RowKit
abbrev PH := Nat → Option Obj
/-- What stays. -/
structure Im where
  ph : PH
  os : Os
  tape : Nat → Question → Nat
  output : Array (Nat × ByteArray)
  dn : Nat
structure Im.le (I J : Im) : Prop where
  ph : ∀ b o, I.ph b = some o → J.ph b = some o
  os : J.os = I.os
  tape : J.tape = I.tape
  output : J.output = I.output ∧ J.dn = I.dn
theorem Im.le.refl (I : Im) : Im.le I I := ⟨fun _ _ h => h, rfl, rfl, rfl, rfl⟩
theorem Im.le.trans {A B C : Im} (h : Im.le A B) (k : Im.le B C) : Im.le A C :=
  ⟨fun b o x => k.ph b o (h.ph b o x), k.os.trans h.os, k.tape.trans h.tape, k.output.1.trans h.output.1, k.output.2.trans h.output.2⟩
abbrev HP := PH → Prop
def emp : HP := fun _ => True
def Parts : List HP → (Nat → Prop) → World → Prop
  | [], _, _ => True
  | p :: l, D, w => ∃ h : PH, p h ∧ (∀ b o, h b = some o → w.heap[b]? = some o ∧ ¬ D b) ∧ Parts l (fun b => D b ∨ (h b).isSome = true) w
structure Sat (I : Im) (l : List HP) (w : World) : Prop where
  imm : ∀ b o, I.ph b = some o → w.heap[b]? = some o
  os : w.os = I.os
  tape : w.tape = I.tape
  output : w.output = I.output ∧ I.dn ≤ w.drawn
  own : Parts l (fun b => (I.ph b).isSome = true) w
theorem lt_of_heap {w : World} {b : Nat} {o : Obj} (h : w.heap[b]? = some o) : b < w.heap.size := (Array.getElem?_eq_some_iff.1 h).1
theorem Parts.anti : ∀ {l : List HP} {D D' : Nat → Prop} {w : World}, Parts l D w → (∀ b, D' b → D b) → Parts l D' w
  | [], _, _, _, _, _ => trivial
  | p :: l, D, D', w, ⟨h, hp, hh, hr⟩, hd => ⟨h, hp, fun b o e => ⟨(hh b o e).1, fun x => (hh b o e).2 (hd b x)⟩, Parts.anti hr fun b x => x.imp (hd b) id⟩
/-- The k-th resource, and what becomes of the whole when it turns. -/
theorem Parts.focus : ∀ {l : List HP} {D : Nat → Prop} {w : World} {k : Nat} {p : HP}, Parts l D w → l[k]? = some p → (∀ b, D b → b < w.heap.size) →
    ∃ h : PH, p h ∧ (∀ b o, h b = some o → w.heap[b]? = some o ∧ ¬ D b) ∧
      ∀ (q : HP) (h' : PH) (w' : World), q h' → (∀ b o, h' b = some o → w'.heap[b]? = some o) → (∀ b, (h' b).isSome = true → (h b).isSome = true ∨ w.heap.size ≤ b) →
        (∀ b, b < w.heap.size → h b = none → w'.heap[b]? = w.heap[b]?) → Parts (l.set k q) D w'
  | [], _, _, k, p, _, hk, _ => by simp at hk
  | p0 :: l, D, w, 0, p, ⟨h, hp, hh, hr⟩, hk, hD => by
    simp at hk
    subst hk
    refine ⟨h, hp, hh, fun q h' w' hq h1 h2 h3 => ⟨h', hq, fun b o e => ⟨h1 b o e, fun hDb => ?_⟩, ?_⟩⟩
    · rcases h2 b (by rw [e]; rfl) with hb | hb
      · obtain ⟨o', ho'⟩ := Option.isSome_iff_exists.1 hb
        exact (hh b o' ho').2 hDb
      · exact absurd (hD b hDb) (by omega)
    · -- what follows lies apart from h, so it has not turned
      clear hp hq
      have key : ∀ (l : List HP) (E : Nat → Prop), Parts l (fun b => E b ∨ (h b).isSome = true) w → Parts l (fun b => E b ∨ (h' b).isSome = true) w' := by
        intro l
        induction l with
        | nil => intro _ _; trivial
        | cons p l ih =>
          rintro E ⟨g, hg, hgg, hr⟩
          refine ⟨g, hg, fun b o e => ?_, ?_⟩
          · obtain ⟨e1, e2⟩ := hgg b o e
            have hlt := lt_of_heap e1
            have hn : h b = none := by
              cases hb : h b with
              | none => rfl
              | some o' => exact absurd (Or.inr (by rw [hb]; rfl)) e2
            refine ⟨(h3 b hlt hn).trans e1, ?_⟩
            rintro (x | x)
            · exact e2 (.inl x)
            · rcases h2 b x with y | y
              · rw [hn] at y; cases y
              · omega
          · have := ih (fun b => E b ∨ (g b).isSome = true) (hr.anti fun b x => by
              rcases x with (x | x) | x
              · exact .inl (.inl x)
              · exact .inr x
              · exact .inl (.inr x))
            exact this.anti fun b x => by
              rcases x with (x | x) | x
              · exact .inl (.inl x)
              · exact .inr x
              · exact .inl (.inr x)
      exact key l D hr
  | p0 :: l, D, w, k + 1, p, ⟨h, hp, hh, hr⟩, hk, hD => by
    simp at hk
    obtain ⟨g, hg, hgg, hclose⟩ := Parts.focus hr hk (fun b x => by
      rcases x with x | x
      · exact hD b x
      · obtain ⟨o, ho⟩ := Option.isSome_iff_exists.1 x
        exact lt_of_heap (hh b o ho).1)
    refine ⟨g, hg, fun b o e => ⟨(hgg b o e).1, fun x => (hgg b o e).2 (.inl x)⟩, fun q h' w' hq h1 h2 h3 => ⟨h, hp, fun b o e => ?_, hclose q h' w' hq h1 h2 h3⟩⟩
    obtain ⟨e1, e2⟩ := hh b o e
    have hn : g b = none := by
      cases hb : g b with
      | none => rfl
      | some o' => exact absurd (Or.inr (by rw [e]; rfl)) (hgg b o' hb).2
    exact ⟨(h3 b (lt_of_heap e1) hn).trans e1, e2⟩
section sat
variable {I : Im} {l : List HP} {w w' : World} {p q : HP} {k : Nat}
theorem Sat.dom (h : Sat I l w) : ∀ b, (I.ph b).isSome = true → b < w.heap.size := fun b x => by
  obtain ⟨o, ho⟩ := Option.isSome_iff_exists.1 x
  exact lt_of_heap (h.imm b o ho)
theorem Sat.focus (h : Sat I l w) (hk : l[k]? = some p) :
    ∃ g : PH, p g ∧ (∀ b o, g b = some o → w.heap[b]? = some o ∧ I.ph b = none) ∧
      ∀ (q : HP) (g' : PH) (w' : World), q g' → w'.os = w.os → w'.tape = w.tape → (w'.output = w.output ∧ w.drawn ≤ w'.drawn) → (∀ b o, g' b = some o → w'.heap[b]? = some o) →
        (∀ b, (g' b).isSome = true → (g b).isSome = true ∨ w.heap.size ≤ b) → (∀ b, b < w.heap.size → g b = none → w'.heap[b]? = w.heap[b]?) → Sat I (l.set k q) w' := by
  obtain ⟨g, hg, hgg, hclose⟩ := Parts.focus h.own hk h.dom
  have hI : ∀ b o, g b = some o → I.ph b = none := fun b o e => by
    cases hb : I.ph b with
    | none => rfl
    | some o' => exact absurd (by show (I.ph b).isSome = true; rw [hb]; rfl) (hgg b o e).2
  refine ⟨g, hg, fun b o e => ⟨(hgg b o e).1, hI b o e⟩, fun q g' w' hq e1 e2 e3 h1 h2 h3 => ⟨fun b o e => ?_, e1.trans h.os, e2.trans h.tape, ⟨e3.1.trans h.output.1, Nat.le_trans h.output.2 e3.2⟩, hclose q g' w' hq h1 h2 h3⟩⟩
  have hb := h.imm b o e
  have hn : g b = none := by
    cases hb : g b with
    | none => rfl
    | some o' => have := hI b o' hb; rw [e] at this; cases this
  exact (h3 b (lt_of_heap hb) hn).trans hb
/-- A new block on top. -/
theorem Sat.push (h : Sat I l w) (o : Obj) (q : HP) (hq : q (fun b => if b = w.heap.size then some o else none)) : Sat I (q :: l) (w.alloc o) := by
  have hold : ∀ b, b < w.heap.size → (w.alloc o).heap[b]? = w.heap[b]? := fun b hb => Below.heap_alloc w o b hb
  have hnew : (w.alloc o).heap[w.heap.size]? = some o := heap_alloc_new w o
  refine ⟨fun b o' e => (hold b (lt_of_heap (h.imm b o' e))).trans (h.imm b o' e), h.os, h.tape, h.output, ⟨_, hq, fun b o' e => ?_, ?_⟩⟩
  · split at e
    · rename_i hb
      subst hb
      cases e
      exact ⟨hnew, fun x => absurd (h.dom _ x) (by omega)⟩
    · cases e
  · have key : ∀ (l : List HP) (D D' : Nat → Prop), Parts l D w → (∀ b, D' b → D b ∨ b = w.heap.size) → Parts l D' (w.alloc o) := by
      intro l
      induction l with
      | nil => intro _ _ _ _; trivial
      | cons p l ih =>
        rintro D D' ⟨g, hg, hgg, hr⟩ hd
        refine ⟨g, hg, fun b o' e => ?_, ih _ _ hr fun b x => ?_⟩
        · obtain ⟨e1, e2⟩ := hgg b o' e
          have hlt := lt_of_heap e1
          refine ⟨(hold b hlt).trans e1, fun x => ?_⟩
          rcases hd b x with y | y
          · exact e2 y
          · omega
        · rcases x with x | x
          · rcases hd b x with y | y
            · exact .inl (.inl y)
            · exact .inr y
          · exact .inl (.inr x)
    exact key l _ _ h.own fun b x => by
      rcases x with x | x
      · exact .inl x
      · by_cases hb : b = w.heap.size
        · exact .inr hb
        · simp [hb] at x
theorem Parts.world : ∀ {l : List HP} {D : Nat → Prop} {w w' : World}, Parts l D w → (∀ b : Nat, w'.heap[b]? = w.heap[b]?) → Parts l D w'
  | [], _, _, _, _, _ => trivial
  | p :: l, D, w, w', ⟨g, hg, hgg, hr⟩, hw => ⟨g, hg, fun b o e => ⟨(hw b).trans (hgg b o e).1, (hgg b o e).2⟩, Parts.world hr hw⟩
theorem Sat.drew (h : Sat I l w) : Sat I l w.drew := ⟨h.imm, h.os, h.tape, ⟨h.output.1, Nat.le_succ_of_le h.output.2⟩, h.own.world fun _ => rfl⟩
theorem Parts.erase : ∀ {l : List HP} {D : Nat → Prop} {w : World} (k : Nat), Parts l D w → Parts (l.eraseIdx k) D w
  | [], _, _, _, _ => trivial
  | p :: l, D, w, 0, ⟨g, hg, hgg, hr⟩ => hr.anti fun b x => .inl x
  | p :: l, D, w, k + 1, ⟨g, hg, hgg, hr⟩ => ⟨g, hg, hgg, Parts.erase k hr⟩
theorem Sat.erase (h : Sat I l w) (k : Nat) : Sat I (l.eraseIdx k) w := ⟨h.imm, h.os, h.tape, h.output, h.own.erase k⟩
theorem Sat.tail (h : Sat I (p :: l) w) : Sat I l w := h.erase 0
/-- A resource that is another one too. -/
theorem Sat.weaken (h : Sat I l w) (hk : l[k]? = some p) (hpq : ∀ g, p g → q g) : Sat I (l.set k q) w := by
  obtain ⟨g, hg, hgg, hclose⟩ := h.focus hk
  exact hclose q g w (hpq g hg) rfl rfl ⟨rfl, Nat.le_refl _⟩ (fun b o e => (hgg b o e).1) (fun b x => .inl x) (fun _ _ _ => rfl)
theorem Parts.move : ∀ {l : List HP} {D : Nat → Prop} {w : World} {k : Nat} {p : HP}, Parts l D w → l[k]? = some p → Parts (p :: l.eraseIdx k) D w
  | [], _, _, k, p, _, hk => by simp at hk
  | p0 :: l, D, w, 0, p, h, hk => by simp at hk; subst hk; exact h
  | p0 :: l, D, w, k + 1, p, ⟨g, hg, hgg, hr⟩, hk => by
    simp at hk
    obtain ⟨g2, hg2, hgg2, hr2⟩ := Parts.move hr hk
    refine ⟨g2, hg2, fun b o e => ⟨(hgg2 b o e).1, fun x => (hgg2 b o e).2 (.inl x)⟩, ⟨g, hg, fun b o e => ⟨(hgg b o e).1, fun x => ?_⟩, hr2.anti fun b x => ?_⟩⟩
    · rcases x with x | x
      · exact (hgg b o e).2 x
      · obtain ⟨o2, ho2⟩ := Option.isSome_iff_exists.1 x
        exact (hgg2 b o2 ho2).2 (.inr (by rw [e]; rfl))
    · rcases x with (x | x) | x
      · exact .inl (.inl x)
      · exact .inr x
      · exact .inl (.inr x)
/-- A resource to the front. -/
theorem Sat.front (h : Sat I l w) (hk : l[k]? = some p) : Sat I (p :: l.eraseIdx k) w := ⟨h.imm, h.os, h.tape, h.output, h.own.move hk⟩
/-- A resource that will not turn any more. -/
theorem Sat.freeze (h : Sat I (p :: l) w) : ∃ (g : PH) (J : Im), p g ∧ Im.le I J ∧ (∀ b o, g b = some o → J.ph b = some o) ∧ Sat J l w := by
  obtain ⟨g, hg, hgg, hr⟩ := h.own
  refine ⟨g, ⟨fun b => match I.ph b with | some o => some o | none => g b, I.os, I.tape, I.output, I.dn⟩, hg, ⟨fun b o e => by simp [e], rfl, rfl, rfl, rfl⟩, fun b o e => ?_,
    ⟨fun b o e => ?_, h.os, h.tape, h.output, hr.anti fun b x => ?_⟩⟩
  · have : I.ph b = none := by
      cases hb : I.ph b with
      | none => rfl
      | some o' => exact absurd (by show (I.ph b).isSome = true; rw [hb]; rfl) (hgg b o e).2
    simp [this, e]
  · simp only at e
    cases hb : I.ph b with
    | none => rw [hb] at e; exact (hgg b o e).1
    | some o' => rw [hb] at e; cases e; exact h.imm b _ hb
  · simp only at x
    cases hb : I.ph b with
    | none => rw [hb] at x; exact .inr x
    | some o' => exact .inl (by show (I.ph b).isSome = true; rw [hb]; rfl)
end sat
end Go.HL
