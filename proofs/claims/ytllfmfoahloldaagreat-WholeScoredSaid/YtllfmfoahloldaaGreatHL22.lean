/- Rows: a row replaced, a row appended; it holds of every program. -/
import Derived.Test.YtllfmfoahloldaaGreatHL21
set_option linter.unusedVariables false
set_option linter.unusedSimpArgs false
set_option linter.unusedSectionVars false
namespace Go.HL
open Go.RowKit
section
variable {I : Im} {l : List HP} {w w' : World}
theorem Parts.putBack {q : HP} : ∀ (l : List HP) (k : Nat) (D : Nat → Prop), k < l.length → Parts (q :: l.eraseIdx k) D w → Parts (l.set k q) D w
  | [], k, D, hk, _ => by simp at hk
  | a :: l, 0, D, _, h => h
  | a :: l, k + 1, D, hk, ⟨g, hg, hgg, g2, ha, hg2, hr⟩ => by
    refine ⟨g2, ha, fun b o e => ⟨(hg2 b o e).1, fun x => (hg2 b o e).2 (.inl x)⟩, Parts.putBack l k _ (by simpa using hk) ⟨g, hg, fun b o e => ⟨(hgg b o e).1, fun x => ?_⟩, hr.anti fun b x => ?_⟩⟩
    · rcases x with x | x
      · exact (hgg b o e).2 x
      · obtain ⟨o2, ho2⟩ := Option.isSome_iff_exists.1 x
        exact (hg2 b o2 ho2).2 (.inr (by rw [e]; rfl))
    · rcases x with (x | x) | x
      · exact .inl (.inl x)
      · exact .inr x
      · exact .inl (.inr x)
theorem Sat.takeOut {p : HP} {k : Nat} (hs : Sat I l w) (hk : l[k]? = some p) : Sat I (p :: l.set k emp) w := by
  have h := (hs.front hk).pushEmp.swap
  obtain ⟨e1, e2, e3, e4, g, hg, hgg, hr⟩ := h
  exact ⟨e1, e2, e3, e4, g, hg, hgg, Parts.putBack l k _ (List.getElem?_eq_some_iff.1 hk).1 hr⟩
theorem rowsB_app : ∀ {rs : List Rh} {X : List (List Int)} {l : List HP} (r : Rh) (x : List Int), Sat I (rowsB rs X :: row1 r x :: l) w → Sat I (rowsB (rs ++ [r]) (X ++ [x]) :: l) w
  | [], [], l, r, x, hs => by
    have h1 : Sat I (row1 r x :: emp :: l) w := hs.swap
    exact h1.sepC
  | r0 :: rs, x0 :: X, l, r, x, hs => by
    have h1 : Sat I (row1 r0 x0 :: rowsB rs X :: row1 r x :: l) w := hs.sepO
    have h2 : Sat I (rowsB rs X :: row1 r x :: row1 r0 x0 :: l) w := (h1.front (k := 2) rfl).front (k := 2) rfl
    exact (rowsB_app r x h2).swap.sepC
  | [], _ :: _, _, _, _, hs => by obtain ⟨_, _, _, _, g, hg, _⟩ := hs; exact hg.elim
  | _ :: _, [], _, _, _, hs => by obtain ⟨_, _, _, _, g, hg, _⟩ := hs; exact hg.elim
variable {ra : Option Addr} {rn rc : Nat} {rs : List Rh} {X : List (List Int)} {k : Nat} {i : Int}
theorem Sat.rowsNil (hs : Sat I l w) : Sat I (rowsP none 0 0 [] [] :: l) w := ((hs.pushEmp).pushNil 24 1).sepC
end
section
variable {P : Program} {r : Option Nat} {n : Nat} {K : KK} {f : FF} {ds : List Deferred} {w w' : World} {all : Array Oper} {rest : List Oper}
variable {T : TypeId} {pos : String} {af : Array Edge} {d : Nat} {I : Im} {l : List HP} {t : TypeId} {agg : Bool} {zero : List Value} {x y : Operand}
variable {ra oa ob : Option Addr} {rn rc c c2 m : Nat} {rs : List Rh} {X : List (List Int)} {xs : List Int} {k k2 : Nat} {i : Int}
/-- A row put into the place of another. -/
theorem ow_storeRow (hs : Sat I l w) (hk : l[k]? = some (rowsP ra rn rc rs X)) (hk2 : l[k2]? = some (osl 3 1 oa xs.length c (xs.flatMap e64))) (hne : Nat.beq k k2 = false) (hx : ev n f x = .pointer (some (ea ra (i.toNat * 1)))) (hy : ev n f y = .slice oa xs.length c)
    (hT : TyC P 24 false [.slice none 0 0]) (h0 : 0 ≤ i) (h1 : i < (X.length : Int))
    (h : ∀ w', Sat I (((l.set k emp).set k2 emp).set k (rowsP ra rn rc (rs.set i.toNat (oa, c)) (X.set i.toNat xs))) w' → OW P r n all K rest f ds w') : OW P r n all K (⟨none, .store 24 x y, T, pos, af, none⟩ :: rest) f ds w := by
  have hkk : k ≠ k2 := fun e => by subst e; rw [beq_t] at hne; cases hne
  have hi : i.toNat < X.length := by omega
  obtain ⟨hl, hrn⟩ := hs.rowsLen hk
  have hr : i.toNat < rs.length := by omega
  have hk3 : (l.set k emp)[k2]? = some (osl 3 1 oa xs.length c (xs.flatMap e64)) := by rw [List.getElem?_set_ne hkk]; exact hk2
  have s1 := hs.takeOut hk
  have s2 : Sat I (osl 3 1 oa xs.length c (xs.flatMap e64) :: rowsP ra rn rc rs X :: (l.set k emp).set k2 emp) w := s1.takeOut (k := k2 + 1) (by simpa using hk3)
  have s3 : Sat I (osl 24 1 ra rn rc (hdrs rs X) :: rowsB rs X :: osl 3 1 oa xs.length c (xs.flatMap e64) :: (l.set k emp).set k2 emp) w := s2.swap.sepO
  have e4 := hdrs_at hr hi
  have hlen : (hdrs rs X).length = X.length := by simp [hdrs, hl]
  refine ow_storeO (k := 0) (vs := [.slice oa xs.length c]) (p := i.toNat * 1) (xs' := hdrs (rs.set i.toNat (oa, c)) (X.set i.toNat xs)) s3 rfl hx hy hT rfl rfl (by simp only [List.length_singleton, Nat.mul_one, hlen]; omega) Nat.zero_lt_one rfl ?_ ?_
  · have := hdrs_set (rs := rs) (X := X) i.toNat (oa, c) xs hi hr
    simpa [hd1] using this
  · intro w' s4
    refine h w' ?_
    have s5 : Sat I (rowsB rs X :: osl 24 1 ra rn rc (hdrs (rs.set i.toNat (oa, c)) (X.set i.toNat xs)) :: osl 3 1 oa xs.length c (xs.flatMap e64) :: (l.set k emp).set k2 emp) w' := Sat.swap s4
    obtain ⟨_, s6⟩ := rowsB_out i.toNat hi s5
    have s7 := s6.tail
    have s8 : Sat I (row1 (oa, c) xs :: rowsB (rs.eraseIdx i.toNat) (X.eraseIdx i.toNat) :: osl 24 1 ra rn rc (hdrs (rs.set i.toNat (oa, c)) (X.set i.toNat xs)) :: (l.set k emp).set k2 emp) w' := s7.front (k := 2) rfl
    have s9 := (rowsB_in i.toNat hi hr _ _ s8).swap
    have s10 := s9.sepC
    refine s10.setE ?_
    have : k < l.length := (List.getElem?_eq_some_iff.1 hk).1
    rw [List.getElem?_set_ne (Ne.symm hkk), List.getElem?_set_self this]
theorem hdrs_app {rs : List Rh} {X : List (List Int)} (h : rs.length = X.length) (r : Rh) (x : List Int) : hdrs rs X ++ [hd1 r x] = hdrs (rs ++ [r]) (X ++ [x]) := by
  unfold hdrs
  rw [List.zipWith_append h]; rfl
/-- A row appended. -/
theorem ow_appendRow {bytes : Nat} (hs : Sat I l w) (hk : l[k]? = some (rowsP ra rn rc rs X)) (hk2 : l[k2]? = some (osl 3 1 oa xs.length c (xs.flatMap e64))) (hne : Nat.beq k k2 = false) (hu : SliceT P t 24) (hT : TyC P 24 false [.slice none 0 0]) (hE : ElT P 24 [.slice none 0 0] bytes)
    (hx : ev n f x = .slice ra rn rc) (hy : ev n f y = .slice ob 1 c2) (hR : Rs I 1 ob 1 c2 [.slice oa xs.length c]) (h63 : X.length + 1 ≤ 1099511627776) (hby : bytes ≤ 128)
    (h : ∀ ra' rc' w', Sat I (((l.set k emp).set k2 emp).set k (rowsP ra' (rn + 1) rc' (rs ++ [(oa, c)]) (X ++ [xs]))) w' → OW P r n all K rest (upd f d (.slice ra' (rn + 1) rc')) ds w') :
    OW P r n all K (⟨some d, .call ⟨.builtin .append, #[x, y], #[t, t]⟩, T, pos, af, none⟩ :: rest) f ds w := by
  have hkk : k ≠ k2 := fun e => by subst e; rw [beq_t] at hne; cases hne
  obtain ⟨hl, hrn⟩ := hs.rowsLen hk
  have hk3 : (l.set k emp)[k2]? = some (osl 3 1 oa xs.length c (xs.flatMap e64)) := by rw [List.getElem?_set_ne hkk]; exact hk2
  have s1 := hs.takeOut hk
  have s2 : Sat I (osl 3 1 oa xs.length c (xs.flatMap e64) :: rowsP ra rn rc rs X :: (l.set k emp).set k2 emp) w := s1.takeOut (k := k2 + 1) (by simpa using hk3)
  have s3 : Sat I (osl 24 1 ra rn rc (hdrs rs X) :: rowsB rs X :: osl 3 1 oa xs.length c (xs.flatMap e64) :: (l.set k emp).set k2 emp) w := s2.swap.sepO
  refine ow_append (k := 0) (zero := [.slice none 0 0]) s3 rfl hu hT hE rfl hx hy hR rfl (by omega) hby ?_
  intro ra' rc' w' s4
  have e6 : hdrs rs X ++ [.slice oa xs.length c] = hdrs (rs ++ [(oa, c)]) (X ++ [xs]) := hdrs_app hl (oa, c) xs
  have s5 : Sat I (osl 24 1 ra' (rn + 1) rc' (hdrs rs X ++ [.slice oa xs.length c]) :: rowsB rs X :: row1 (oa, c) xs :: (l.set k emp).set k2 emp) w' := s4
  rw [e6] at s5
  have s6 : Sat I (rowsB rs X :: row1 (oa, c) xs :: osl 24 1 ra' (rn + 1) rc' (hdrs (rs ++ [(oa, c)]) (X ++ [xs])) :: (l.set k emp).set k2 emp) w' := (s5.front (k := 2) rfl).front (k := 2) rfl
  have s7 := (rowsB_app _ _ s6).swap.sepC
  have s8 := s7.setE (k := k) (by
    have : k < l.length := (List.getElem?_eq_some_iff.1 hk).1
    rw [List.getElem?_set_ne (Ne.symm hkk), List.getElem?_set_self this])
  exact h ra' rc' w' s8
end
end Go.HL
