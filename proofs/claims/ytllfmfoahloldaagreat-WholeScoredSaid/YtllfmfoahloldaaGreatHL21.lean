/- Rows of numbers that are one's own, behind a slice of their heads; it holds of every program. -/
import Derived.Test.YtllfmfoahloldaaGreatHL20
set_option linter.unusedVariables false
set_option linter.unusedSimpArgs false
set_option linter.unusedSectionVars false
namespace Go.HL
open Go.RowKit
/-- Two resources apart. -/
def sepP (p q : HP) : HP := fun g => ∃ g1 g2 : PH, p g1 ∧ q g2 ∧ (∀ b o, g1 b = some o → g2 b = none) ∧ ∀ b, g b = match g1 b with | some o => some o | none => g2 b
section
variable {I : Im} {l : List HP} {w w' : World}
theorem Sat.sepO {p q : HP} (hs : Sat I (sepP p q :: l) w) : Sat I (p :: q :: l) w := by
  obtain ⟨h1, h2, h3, h4, g, ⟨g1, g2, hp, hq, hd, hg⟩, hgg, hr⟩ := hs
  refine ⟨h1, h2, h3, h4, g1, hp, fun b o e => hgg b o (by rw [hg, e]), g2, hq, fun b o e => ?_, hr.anti fun b x => ?_⟩
  · have hn : g1 b = none := by
      cases hb : g1 b with
      | none => rfl
      | some o' => have := hd b o' hb; rw [e] at this; cases this
    have := hgg b o (by rw [hg, hn]; exact e)
    refine ⟨this.1, fun x => ?_⟩
    rcases x with x | x
    · exact this.2 x
    · rw [hn] at x; cases x
  · rcases x with (x | x) | x
    · exact .inl x
    · exact .inr (by rw [hg]; cases hb : g1 b with | none => rw [hb] at x; cases x | some o => rfl)
    · exact .inr (by rw [hg]; cases hb : g1 b with | none => exact x | some o => rfl)
theorem Sat.sepC {p q : HP} (hs : Sat I (p :: q :: l) w) : Sat I (sepP p q :: l) w := by
  obtain ⟨h1, h2, h3, h4, g1, hp, hg1, g2, hq, hg2, hr⟩ := hs
  refine ⟨h1, h2, h3, h4, fun b => match g1 b with | some o => some o | none => g2 b, ⟨g1, g2, hp, hq, fun b o e => ?_, fun b => rfl⟩, fun b o e => ?_, hr.anti fun b x => ?_⟩
  · cases hb : g2 b with
    | none => rfl
    | some o2 => exact absurd (Or.inr (by rw [e]; rfl)) (hg2 b o2 hb).2
  · simp only at e
    cases hb : g1 b with
    | none => rw [hb] at e; exact ⟨(hg2 b o e).1, fun x => (hg2 b o e).2 (.inl x)⟩
    | some o' => rw [hb] at e; cases e; exact hg1 b _ hb
  · rcases x with x | x
    · exact .inl (.inl x)
    · simp only at x
      cases hb : g1 b with
      | none => rw [hb] at x; exact .inr x
      | some o' => exact .inl (.inr (by show (g1 b).isSome = true; rw [hb]; rfl))
abbrev Rh := Option Addr × Nat
def row1 (r : Rh) (x : List Int) : HP := osl 3 1 r.1 x.length r.2 (x.flatMap e64)
def rowsB : List Rh → List (List Int) → HP
  | [], [] => emp
  | r :: rs, x :: X => sepP (row1 r x) (rowsB rs X)
  | _, _ => fun _ => False
def hd1 (r : Rh) (x : List Int) : Value := .slice r.1 x.length r.2
def hdrs (rs : List Rh) (X : List (List Int)) : List Value := List.zipWith hd1 rs X
def rAt (rs : List Rh) (i : Int) : Rh := rs.getD i.toNat (none, 0)
def rowsP (ra : Option Addr) (rn rc : Nat) (rs : List Rh) (X : List (List Int)) : HP := sepP (osl 24 1 ra rn rc (hdrs rs X)) (rowsB rs X)
/-- The rows but for one. -/
def rowsH (i : Int) (ra : Option Addr) (rn rc : Nat) (rs : List Rh) (X : List (List Int)) : HP := sepP (osl 24 1 ra rn rc (hdrs rs X)) (rowsB (rs.eraseIdx i.toNat) (X.eraseIdx i.toNat))
theorem rowsB_len : ∀ {rs : List Rh} {X : List (List Int)} {g : PH}, rowsB rs X g → rs.length = X.length
  | [], [], _, _ => rfl
  | r :: rs, x :: X, _, ⟨_, _, _, h, _⟩ => by simp [rowsB_len h]
  | [], _ :: _, _, h => h.elim
  | _ :: _, [], _, h => h.elim
theorem Sat.swap {p q : HP} (hs : Sat I (p :: q :: l) w) : Sat I (q :: p :: l) w := hs.front (k := 1) rfl
theorem rowsB_out : ∀ {rs : List Rh} {X : List (List Int)} {l : List HP} (i : Nat) (hi : i < X.length), Sat I (rowsB rs X :: l) w → ∃ hr : i < rs.length, Sat I (row1 (rs[i]'hr) (X[i]'hi) :: rowsB (rs.eraseIdx i) (X.eraseIdx i) :: l) w
  | [], [], _, i, hi, _ => by simp at hi
  | r :: rs, x :: X, l, 0, _, hs => ⟨by simp, hs.sepO⟩
  | r :: rs, x :: X, l, i + 1, hi, hs => by
    have h1 : Sat I (row1 r x :: rowsB rs X :: l) w := hs.sepO
    obtain ⟨hr, h2⟩ := rowsB_out i (by simpa using hi) h1.swap
    refine ⟨by simpa using hr, ?_⟩
    have h3 : Sat I (row1 r x :: rowsB (rs.eraseIdx i) (X.eraseIdx i) :: row1 (rs[i]'(by simpa using hr)) (X[i]'(by simpa using hi)) :: l) w := by
      have := h2.front (k := 2) rfl
      exact (this.front (k := 2) rfl).swap
    have h4 := h3.sepC
    exact h4.swap
  | [], _ :: _, _, _, _, hs => by obtain ⟨_, _, _, _, g, hg, _⟩ := hs; exact hg.elim
  | _ :: _, [], _, _, _, hs => by obtain ⟨_, _, _, _, g, hg, _⟩ := hs; exact hg.elim
theorem rowsB_in : ∀ {rs : List Rh} {X : List (List Int)} {l : List HP} (i : Nat) (hi : i < X.length) (hr : i < rs.length) (r : Rh) (x : List Int), Sat I (row1 r x :: rowsB (rs.eraseIdx i) (X.eraseIdx i) :: l) w → Sat I (rowsB (rs.set i r) (X.set i x) :: l) w
  | [], _, _, i, _, hr, _, _, _ => by simp at hr
  | _ :: _, [], _, i, hi, _, _, _, _ => by simp at hi
  | r0 :: rs, x0 :: X, l, 0, _, _, r, x, hs => hs.sepC
  | r0 :: rs, x0 :: X, l, i + 1, hi, hr, r, x, hs => by
    have h1 : Sat I (row1 r0 x0 :: rowsB (rs.eraseIdx i) (X.eraseIdx i) :: row1 r x :: l) w := Sat.sepO (hs.swap)
    have h2 : Sat I (row1 r x :: rowsB (rs.eraseIdx i) (X.eraseIdx i) :: row1 r0 x0 :: l) w := by
      have h3 := h1.front (k := 2) rfl
      exact (h3.front (k := 2) rfl).front (k := 1) rfl
    have h4 := rowsB_in i (by simpa using hi) (by simpa using hr) r x h2
    exact h4.swap.sepC
theorem hdrs_at {rs : List Rh} {X : List (List Int)} {i : Nat} (hr : i < rs.length) (hi : i < X.length) : (hdrs rs X)[i]? = some (hd1 rs[i] X[i]) := by
  simp [hdrs, List.getElem?_zipWith, hr, hi]
theorem hdrs_set : ∀ {rs : List Rh} {X : List (List Int)} (i : Nat) (r : Rh) (x : List Int), i < X.length → i < rs.length → (hdrs rs X).take i ++ [hd1 r x] ++ (hdrs rs X).drop (i + 1) = hdrs (rs.set i r) (X.set i x)
  | [], _, i, _, _, _, hr => by simp at hr
  | _ :: _, [], i, _, _, hi, _ => by simp at hi
  | r0 :: rs, x0 :: X, 0, r, x, _, _ => by simp [hdrs]
  | r0 :: rs, x0 :: X, i + 1, r, x, hi, hr => by
    have := hdrs_set i r x (rs := rs) (X := X) (by simpa using hi) (by simpa using hr)
    simp only [hdrs] at this ⊢
    simp [← this]
theorem set_self {α : Type} (l : List α) (i : Nat) (h : i < l.length) : l.set i l[i] = l := by simp
variable {ra : Option Addr} {rn rc : Nat} {rs : List Rh} {X : List (List Int)} {k : Nat} {i : Int}
theorem Sat.atFront {p q : HP} (hs : Sat I l w) (hk : l[k]? = some p) (h : ∀ w, Sat I (p :: l.eraseIdx k) w → Sat I (q :: l.eraseIdx k) w) : Sat I (l.set k q) w := by
  have h1 := h w (hs.front hk)
  obtain ⟨e1, e2, e3, e4, g, hg, hgg, hr⟩ := h1
  have key : ∀ (l : List HP) (k : Nat) (D : Nat → Prop) (g : PH), k < l.length → q g → (∀ b o, g b = some o → w.heap[b]? = some o ∧ ¬ D b) → Parts (l.eraseIdx k) (fun b => D b ∨ (g b).isSome = true) w → Parts (l.set k q) D w := by
    intro l
    induction l with
    | nil => intro k D g hk; simp at hk
    | cons a l ih =>
      intro k D g hk hg hgg hr
      cases k with
      | zero => exact ⟨g, hg, hgg, hr⟩
      | succ k =>
        obtain ⟨g2, ha, hg2, hr2⟩ := hr
        refine ⟨g2, ha, fun b o e => ⟨(hg2 b o e).1, fun x => (hg2 b o e).2 (.inl x)⟩, ih k _ g (by simpa using hk) hg (fun b o e => ⟨(hgg b o e).1, fun x => ?_⟩) (hr2.anti fun b x => ?_)⟩
        · rcases x with x | x
          · exact (hgg b o e).2 x
          · obtain ⟨o2, ho2⟩ := Option.isSome_iff_exists.1 x
            exact (hg2 b o2 ho2).2 (.inr (by rw [e]; rfl))
        · rcases x with (x | x) | x
          · exact .inl (.inl x)
          · exact .inr x
          · exact .inl (.inr x)
  have hlt : k < l.length := by
    have := (List.getElem?_eq_some_iff.1 hk).1; exact this
  exact ⟨e1, e2, e3, e4, key l k _ g hlt hg hgg hr⟩
theorem Sat.pushAt {p q : HP} (hs : Sat I l w) (hk : l[k]? = some p) (h : ∀ w, Sat I (p :: l.eraseIdx k) w → Sat I (q :: l.eraseIdx k) w) : Sat I (l.set k q) w := hs.atFront hk h
/-- A row by itself. -/
theorem Sat.rowOut (hs : Sat I (rowsP ra rn rc rs X :: l) w) (h0 : 0 ≤ i) (h1 : i < (X.length : Int)) : rs.length = X.length ∧ Sat I (osl 3 1 (rAt rs i).1 (at' X i).length (rAt rs i).2 ((at' X i).flatMap e64) :: rowsH i ra rn rc rs X :: l) w := by
  have hi : i.toNat < X.length := by omega
  have h2 : Sat I (osl 24 1 ra rn rc (hdrs rs X) :: rowsB rs X :: l) w := hs.sepO
  obtain ⟨hr, h3⟩ := rowsB_out i.toNat hi h2.swap
  have hl : rs.length = X.length := by
    obtain ⟨_, _, _, _, g, _, _, g2, hg2, _⟩ := h2
    exact rowsB_len hg2
  refine ⟨hl, ?_⟩
  have e1 : at' X i = X[i.toNat] := by simp [at', hi]
  have e2 : rAt rs i = rs[i.toNat] := by simp [rAt, hr]
  rw [e1, e2]
  have h4 := h3.front (k := 2) rfl
  have h5 : Sat I (osl 24 1 ra rn rc (hdrs rs X) :: rowsB (rs.eraseIdx i.toNat) (X.eraseIdx i.toNat) :: row1 rs[i.toNat] X[i.toNat] :: l) w := (h4.front (k := 2) rfl).front (k := 1) rfl
  exact h5.sepC.swap
theorem Sat.rowIn {x : List Int} {n : Nat} (hs : Sat I (osl 3 1 (rAt rs i).1 (at' X i).length (rAt rs i).2 (x.flatMap e64) :: rowsH i ra rn rc rs X :: l) w) (h0 : 0 ≤ i) (h1 : i < (X.length : Int)) (hl : rs.length = X.length) (hx : (at' X i).length = x.length) :
    Sat I (rowsP ra rn rc rs (X.set i.toNat x) :: l) w := by
  have hi : i.toNat < X.length := by omega
  have hr : i.toNat < rs.length := by omega
  have e1 : at' X i = X[i.toNat] := by simp [at', hi]
  have e2 : rAt rs i = rs[i.toNat] := by simp [rAt, hr]
  have h2 : Sat I (osl 24 1 ra rn rc (hdrs rs X) :: rowsB (rs.eraseIdx i.toNat) (X.eraseIdx i.toNat) :: osl 3 1 (rAt rs i).1 (at' X i).length (rAt rs i).2 (x.flatMap e64) :: l) w := hs.swap.sepO
  rw [hx, e2] at h2
  have h3 : Sat I (row1 rs[i.toNat] x :: rowsB (rs.eraseIdx i.toNat) (X.eraseIdx i.toNat) :: osl 24 1 ra rn rc (hdrs rs X) :: l) w := ((h2.front (k := 2) rfl).front (k := 2) rfl).swap
  have h4 := rowsB_in i.toNat hi hr _ x h3
  rw [set_self rs _ hr] at h4
  have hh : hdrs rs X = hdrs rs (X.set i.toNat x) := by
    have := hdrs_set (rs := rs) (X := X) i.toNat rs[i.toNat] x hi hr
    rw [set_self rs _ hr] at this
    rw [← this]
    have e3 : hd1 rs[i.toNat] x = hd1 rs[i.toNat] X[i.toNat] := by unfold hd1; rw [← hx, e1]
    rw [e3]
    have e4 := hdrs_at hr hi
    obtain ⟨h5, h6⟩ := List.getElem?_eq_some_iff.1 e4
    rw [← h6]
    simp
  have h7 := h4.swap
  rw [hh] at h7
  exact h7.sepC
theorem hdrs_len {rs : List Rh} {X : List (List Int)} (h : rs.length = X.length) : (hdrs rs X).length = X.length := by simp [hdrs, h]
theorem Sat.rowsLen (hs : Sat I l w) (hk : l[k]? = some (rowsP ra rn rc rs X)) : rs.length = X.length ∧ rn = X.length := by
  have h : Sat I (osl 24 1 ra rn rc (hdrs rs X) :: rowsB rs X :: l.eraseIdx k) w := (hs.front hk).sepO
  have h2 := osl_lenC (k := 0) h rfl
  obtain ⟨_, _, _, _, g, _, _, g2, hg2, _⟩ := h
  have h3 := rowsB_len hg2
  rw [hdrs_len h3] at h2
  exact ⟨h3, by omega⟩
theorem Sat.rowsLenH (hs : Sat I l w) (hk : l[k]? = some (rowsH i ra rn rc rs X)) (hl : rs.length = X.length) : rn = X.length := by
  have h : Sat I (osl 24 1 ra rn rc (hdrs rs X) :: rowsB (rs.eraseIdx i.toNat) (X.eraseIdx i.toNat) :: l.eraseIdx k) w := (hs.front hk).sepO
  have h2 := osl_lenC (k := 0) h rfl
  rw [hdrs_len hl] at h2
  omega
end
section
variable {P : Program} {r : Option Nat} {n : Nat} {K : KK} {f : FF} {ds : List Deferred} {w w' : World} {all : Array Oper} {rest : List Oper}
variable {T : TypeId} {pos : String} {af : Array Edge} {d : Nat} {I : Im} {l : List HP} {t : TypeId} {agg : Bool} {zero : List Value} {x y : Operand}
variable {ra : Option Addr} {rn rc : Nat} {rs : List Rh} {X : List (List Int)} {k : Nat} {i : Int}
theorem sep_CA {q : HP} {Tb : TypeId} {sz m c : Nat} {oa : Option Addr} {xs : List Value} (hs : Sat I l w) (hk : l[k]? = some (sepP (osl Tb sz oa m c xs) q)) (p j : Nat) : CA w (ea oa p) ((xs.drop p).take j) := by
  have h := (hs.front hk).sepO
  exact osl_CA (k := 0) h rfl p j
theorem sep_some {q : HP} {Tb : TypeId} {sz m c : Nat} {oa : Option Addr} {xs : List Value} (hs : Sat I l w) (hk : l[k]? = some (sepP (osl Tb sz oa m c xs) q)) (hm : 0 < m) : oa.isSome = true := by
  have h := (hs.front hk).sepO
  exact osl_some (k := 0) h rfl hm
/-- The head of a row, read. -/
theorem ow_loadRow {q : HP} (hs : Sat I l w) (hk : l[k]? = some (sepP (osl 24 1 ra rn rc (hdrs rs X)) q)) (hl : rs.length = X.length) (hx : ev n f x = .pointer (some (ea ra (i.toNat * 1)))) (hT : TyC P 24 false [.slice none 0 0]) (h0 : 0 ≤ i) (h1 : i < (X.length : Int))
    (h : OW P r n all K rest (upd f d (.slice (rAt rs i).1 (at' X i).length (rAt rs i).2)) ds w) : OW P r n all K (⟨some d, .load 24 x, T, pos, af, none⟩ :: rest) f ds w := by
  have hi : i.toNat < X.length := by omega
  have hr : i.toNat < rs.length := by omega
  have e1 : at' X i = X[i.toNat] := by simp [at', hi]
  have e2 : rAt rs i = rs[i.toNat] := by simp [rAt, hr]
  have e4 := hdrs_at hr hi
  obtain ⟨h5, h6⟩ := List.getElem?_eq_some_iff.1 e4
  have hv : ((hdrs rs X).drop (i.toNat * 1)).take 1 = [.slice (rAt rs i).1 (at' X i).length (rAt rs i).2] := by
    rw [Nat.mul_one, List.drop_eq_getElem_cons h5, List.take_succ_cons, List.take_zero, h6, e1, e2]; rfl
  have hc := sep_CA hs hk (i.toNat * 1) 1
  rw [hv] at hc
  exact oV (x_load hx hT hc rfl) rfl h
end
end Go.HL
