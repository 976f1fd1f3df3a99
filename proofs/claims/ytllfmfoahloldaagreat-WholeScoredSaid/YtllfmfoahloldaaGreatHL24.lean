/- Rows that are to stay; a row put back with another head; rows of one. -/
import Derived.Test.YtllfmfoahloldaaGreatHL23
set_option linter.unusedVariables false
set_option linter.unusedSimpArgs false
set_option linter.unusedSectionVars false
namespace Go.HL
open Go.RowKit
section
variable {P : Program} {r : Option Nat} {n : Nat} {K : KK} {f : FF} {ds : List Deferred} {w w' : World} {all : Array Oper} {rest : List Oper}
variable {T : TypeId} {pos : String} {af : Array Edge} {d : Nat} {I : Im} {l : List HP} {t : TypeId} {agg : Bool} {zero : List Value} {x y : Operand}
variable {ra oa ob : Option Addr} {rn rc c c2 m : Nat} {rs : List Rh} {X : List (List Int)} {xs : List Int} {k k2 : Nat} {i : Int}
theorem ow_storeRowH (hs : Sat I l w) (hk : l[k]? = some (rowsH i ra rn rc rs X)) (hk2 : l[k2]? = some (osl 3 1 oa xs.length c (xs.flatMap e64))) (hne : Nat.beq k k2 = false) (hl : rs.length = X.length) (hx : ev n f x = .pointer (some (ea ra (i.toNat * 1)))) (hy : ev n f y = .slice oa xs.length c)
    (hT : TyC P 24 false [.slice none 0 0]) (h0 : 0 ≤ i) (h1 : i < (X.length : Int))
    (h : ∀ w', Sat I (((l.set k emp).set k2 emp).set k (rowsP ra rn rc (rs.set i.toNat (oa, c)) (X.set i.toNat xs))) w' → OW P r n all K rest f ds w') : OW P r n all K (⟨none, .store 24 x y, T, pos, af, none⟩ :: rest) f ds w := by
  have hkk : k ≠ k2 := fun e => by subst e; rw [beq_t] at hne; cases hne
  have hi : i.toNat < X.length := by omega
  have hrn := hs.rowsLenH hk hl
  have hr : i.toNat < rs.length := by omega
  have hk3 : (l.set k emp)[k2]? = some (osl 3 1 oa xs.length c (xs.flatMap e64)) := by rw [List.getElem?_set_ne hkk]; exact hk2
  have s1 := hs.takeOut hk
  have s2 : Sat I (osl 3 1 oa xs.length c (xs.flatMap e64) :: rowsH i ra rn rc rs X :: (l.set k emp).set k2 emp) w := s1.takeOut (k := k2 + 1) (by simpa using hk3)
  have s3 : Sat I (osl 24 1 ra rn rc (hdrs rs X) :: rowsB (rs.eraseIdx i.toNat) (X.eraseIdx i.toNat) :: osl 3 1 oa xs.length c (xs.flatMap e64) :: (l.set k emp).set k2 emp) w := s2.swap.sepO
  have e4 := hdrs_at hr hi
  have hlen : (hdrs rs X).length = X.length := by simp [hdrs, hl]
  refine ow_storeO (k := 0) (vs := [.slice oa xs.length c]) (p := i.toNat * 1) (xs' := hdrs (rs.set i.toNat (oa, c)) (X.set i.toNat xs)) s3 rfl hx hy hT rfl rfl (by simp only [List.length_singleton, Nat.mul_one, hlen]; omega) Nat.zero_lt_one rfl ?_ ?_
  · have := hdrs_set (rs := rs) (X := X) i.toNat (oa, c) xs hi hr
    simpa [hd1] using this
  · intro w' s4
    refine h w' ?_
    have s5 : Sat I (rowsB (rs.eraseIdx i.toNat) (X.eraseIdx i.toNat) :: osl 24 1 ra rn rc (hdrs (rs.set i.toNat (oa, c)) (X.set i.toNat xs)) :: osl 3 1 oa xs.length c (xs.flatMap e64) :: (l.set k emp).set k2 emp) w' := Sat.swap s4
    have s8 : Sat I (row1 (oa, c) xs :: rowsB (rs.eraseIdx i.toNat) (X.eraseIdx i.toNat) :: osl 24 1 ra rn rc (hdrs (rs.set i.toNat (oa, c)) (X.set i.toNat xs)) :: (l.set k emp).set k2 emp) w' := s5.front (k := 2) rfl
    have s9 := (rowsB_in i.toNat hi hr _ _ s8).swap
    have s10 := s9.sepC
    refine s10.setE ?_
    have : k < l.length := (List.getElem?_eq_some_iff.1 hk).1
    rw [List.getElem?_set_ne (Ne.symm hkk), List.getElem?_set_self this]
theorem ow_sliceHi' {e : TypeId} {hi : Operand} {k1 : IntKind} {c m : Nat} (hu : SliceT P t e) (hT : TyC P e agg zero) (hx : ev n f x = .slice oa m c) (hhi : ev n f hi = .int k1 i) (h0 : 0 ≤ i) (h1 : i ≤ (c : Int))
    (h : OW P r n all K rest (upd f d (.slice oa i.toNat c)) ds w) : OW P r n all K (⟨some d, .slice t x none (some hi) none, T, pos, af, none⟩ :: rest) f ds w := by
  have := x_slice_hi (T := T) (pos := pos) (af := af) (dd := some d) (gg := none) (w := w) hu hT hx hhi h0 h1
  rw [so_zero] at this
  exact oV this rfl h
theorem Sat.rowsOne (hs : Sat I (osl 24 1 oa 1 1 [.slice none 0 0] :: l) w) : Sat I (rowsP oa 1 1 [(none, 0)] [[]] :: l) w := by
  have h1 : Sat I (osl 3 1 none 0 0 [] :: emp :: osl 24 1 oa 1 1 [.slice none 0 0] :: l) w := (hs.pushEmp).pushNil 3 1
  have h2 : Sat I (rowsB [(none, 0)] [[]] :: osl 24 1 oa 1 1 [.slice none 0 0] :: l) w := h1.sepC
  exact h2.swap.sepC
def rowR (J : Im) (x : List Int) (vs : List Value) : Prop := ∃ (a0 : Option Addr) (c0 : Nat), vs = [.slice a0 x.length c0] ∧ Rs J 1 a0 x.length c0 (x.flatMap e64)
theorem rowR.mono {I J : Im} (hle : Im.le I J) : ∀ x vs, rowR I x vs → rowR J x vs := by rintro x vs ⟨a0, c0, rfl, h0⟩; exact ⟨a0, c0, rfl, h0.mono hle⟩
theorem rowsB_freeze : ∀ (rs : List Rh) (X : List (List Int)) {I : Im} {l : List HP} {w : World}, Sat I (rowsB rs X :: l) w → ∃ J, Im.le I J ∧ NL (rowR J) X (hdrs rs X) ∧ Sat J l w
  | [], [], I, l, w, hs => ⟨I, Im.le.refl _, NL.nil, hs.erase 0⟩
  | r :: rs, x :: X, I, l, w, hs => by
    have h1 : Sat I (osl 3 1 r.1 x.length r.2 (x.flatMap e64) :: rowsB rs X :: l) w := hs.sepO
    obtain ⟨J, hle, hR, h2⟩ := h1.freezeO
    obtain ⟨J2, hle2, hN, h3⟩ := rowsB_freeze rs X h2
    exact ⟨J2, hle.trans hle2, ⟨[.slice r.1 x.length r.2], hdrs rs X, rfl, ⟨r.1, r.2, rfl, hR.mono hle2⟩, hN⟩, h3⟩
  | [], _ :: _, _, _, _, hs => by obtain ⟨_, _, _, _, g, hg, _⟩ := hs; exact hg.elim
  | _ :: _, [], _, _, _, hs => by obtain ⟨_, _, _, _, g, hg, _⟩ := hs; exact hg.elim
theorem Sat.rowsFreeze (hs : Sat I (rowsP ra rn rc rs X :: l) w) : ∃ J, Im.le I J ∧ (∃ cs, Rs J 1 ra X.length rc cs ∧ NL (rowR J) X cs) ∧ Sat J l w := by
  have hn := (hs.rowsLen (k := 0) rfl).2
  have h1 : Sat I (osl 24 1 ra rn rc (hdrs rs X) :: rowsB rs X :: l) w := hs.sepO
  obtain ⟨J, hle, hN, h2⟩ := rowsB_freeze rs X h1.swap
  obtain ⟨J2, hle2, hR, h3⟩ := h2.freezeO
  subst hn
  exact ⟨J2, hle.trans hle2, ⟨_, hR, NL.mono (rowR.mono hle2) hN⟩, h3⟩
end
end Go.HL
