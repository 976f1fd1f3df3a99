/- Slices that are one's own: their length, made ones, parts, copies; fields of values; it holds of every program. -/
import Derived.Test.YtllfmfoahloldaaGreatHL14
import Derived.Test.YtllfmfoahloldaaGreatHL16
import Derived.Test.YtllfmfoahloldaaGreatHL17
import Derived.Laws.IdiomCopy
set_option linter.unusedVariables false
set_option linter.unusedSimpArgs false
set_option linter.unusedSectionVars false
namespace Go.HL
open Go.RowKit
section
variable {P : Program} {r : Option Nat} {n : Nat} {K : KK} {f : FF} {ds : List Deferred} {w w' : World} {all : Array Oper} {rest : List Oper}
variable {T : TypeId} {pos : String} {af : Array Edge} {d : Nat} {I : Im} {l : List HP} {t : TypeId} {agg : Bool} {zero : List Value} {x y : Operand}
variable {E : Type} {enc : E → List Value}
theorem osl_lenC {k : Nat} {Tb : TypeId} {sz m c : Nat} {oa : Option Addr} {xs : List Value} (hs : Sat I l w) (hk : l[k]? = some (osl Tb sz oa m c xs)) : xs.length = m * sz := by
  obtain ⟨g, ⟨h, _⟩, _, _⟩ := hs.focus hk
  exact h
theorem osl_n {k : Nat} {Tb : TypeId} {sz m c : Nat} {oa : Option Addr} {X : List E} (hs : Sat I l w) (hk : l[k]? = some (osl Tb sz oa m c (X.flatMap enc))) (hz : ∀ x, (enc x).length = sz) (h0 : 0 < sz) : m = X.length := by
  have h := osl_lenC hs hk
  rw [flat_len enc sz hz] at h
  exact (Nat.eq_of_mul_eq_mul_right h0 h).symm
theorem osl_nN {k : Nat} {Tb : TypeId} {sz m c : Nat} {oa : Option Addr} {xs : List Value} {rel : E → List Value → Prop} {X : List E} (hs : Sat I l w) (hk : l[k]? = some (osl Tb sz oa m c xs)) (hN : NL rel X xs) (hz : ∀ x v, rel x v → v.length = sz) (h0 : 0 < sz) : m = X.length := by
  have h := osl_lenC hs hk
  rw [hN.len hz] at h
  exact (Nat.eq_of_mul_eq_mul_right h0 h).symm
theorem flat_rep (z : E) (zero : List Value) (h : enc z = zero) : ∀ a : Nat, (List.replicate a zero).flatten = (List.replicate a z).flatMap enc
  | 0 => rfl
  | a + 1 => by rw [List.replicate_succ, List.replicate_succ, List.flatten_cons, List.flatMap_cons, h, flat_rep z zero h a]
theorem ow_makeT {e : TypeId} {z : E} {xl xc : Operand} {k1 k2 : IntKind} {i j : Int} {bytes : Nat} (hs : Sat I l w) (hu : SliceT P t e) (hT : TyC P e agg zero) (hE : ElT P e zero bytes) (hz1 : zero.all Value.oneCell' = true) (hz : enc z = zero)
    (hl : ev n f xl = .int k1 i) (hc : ev n f xc = .int k2 j) (h0 : 0 ≤ i) (h1 : i ≤ j) (h2 : j ≤ 1099511627776) (hby : bytes ≤ 128)
    (h : ∀ oa w', Sat I (osl e zero.length oa (List.replicate i.toNat z).length j.toNat ((List.replicate i.toNat z).flatMap enc) :: l) w' → OW P r n all K rest (upd f d (.slice oa (List.replicate i.toNat z).length j.toNat)) ds w') :
    OW P r n all K (⟨some d, .makeSlice t xl xc, T, pos, af, none⟩ :: rest) f ds w := by
  refine ow_make hs hu hT hE hz1 hl hc h0 h1 h2 hby fun oa w' hs' hoa => ?_
  have := h oa w' (by rw [List.length_replicate, ← flat_rep z zero hz]; exact hs')
  rwa [List.length_replicate] at this
theorem so_zero (oa : Option Addr) (c sz : Nat) : so oa c 0 sz = oa := by
  unfold so
  split
  · rfl
  · cases oa with
    | none => rfl
    | some a => simp [Addr.add]
/-- The head of a slice of one's own. -/
theorem Sat.trunc {k : Nat} {Tb : TypeId} {sz m c : Nat} {oa : Option Addr} {xs : List Value} (hs : Sat I l w) (hk : l[k]? = some (osl Tb sz oa m c xs)) (j : Nat) (hj : j ≤ m) : Sat I (l.set k (osl Tb sz oa j c (xs.take (j * sz)))) w := by
  refine hs.weaken hk fun g ⟨h1, h2⟩ => ⟨?_, ?_⟩
  · rw [List.length_take, h1]
    have := Nat.mul_le_mul_right sz hj
    omega
  · rcases h2 with ⟨rfl, h3, h4⟩ | ⟨b, cur, h3, h4, h5, h6, h7, h8⟩
    · exact .inl ⟨rfl, by omega, h4⟩
    · refine .inr ⟨b, cur, h3, h4, by omega, h6, h7, ?_⟩
      rw [← h8, List.take_take]
      have := Nat.mul_le_mul_right sz hj
      congr 1; omega
theorem flat_take {sz : Nat} (hz : ∀ x, (enc x).length = sz) : ∀ (X : List E) (j : Nat), (X.flatMap enc).take (j * sz) = (X.take j).flatMap enc
  | X, 0 => by simp
  | [], j + 1 => by simp
  | x :: X, j + 1 => by
    rw [List.flatMap_cons, List.take_succ_cons, List.flatMap_cons, List.take_append, Nat.succ_mul, hz]
    have : (enc x).take (j * sz + sz) = enc x := List.take_of_length_le (by rw [hz]; omega)
    rw [this, show j * sz + sz - sz = j * sz by omega, flat_take hz X j]
theorem ow_sliceHi {e : TypeId} {hi : Operand} {k1 : IntKind} {i : Int} {k m c : Nat} {oa : Option Addr} {X : List E} (hs : Sat I l w) (hk : l[k]? = some (osl e zero.length oa m c (X.flatMap enc))) (hu : SliceT P t e) (hT : TyC P e agg zero)
    (hz : ∀ x, (enc x).length = zero.length) (h0z : 0 < zero.length) (hx : ev n f x = .slice oa m c) (hhi : ev n f hi = .int k1 i) (h0 : 0 ≤ i) (h1 : i ≤ (X.length : Int))
    (h : Sat I (l.set k (osl e zero.length oa (X.take i.toNat).length c ((X.take i.toNat).flatMap enc))) w → OW P r n all K rest (upd f d (.slice oa (X.take i.toNat).length c)) ds w) :
    OW P r n all K (⟨some d, .slice t x none (some hi) none, T, pos, af, none⟩ :: rest) f ds w := by
  have hm := osl_n hs hk hz h0z
  have hlen : (X.take i.toNat).length = i.toNat := by rw [List.length_take]; omega
  have hc : m ≤ c := by
    obtain ⟨g, ⟨_, hg⟩, _, _⟩ := hs.focus hk
    rcases hg with ⟨_, h3, h4⟩ | ⟨_, _, _, _, h5, _⟩ <;> omega
  have hs' := hs.trunc hk i.toNat (by omega)
  rw [flat_take hz] at hs'
  have := x_slice_hi (T := T) (pos := pos) (af := af) (dd := some d) (gg := none) (w := w) hu hT hx hhi h0 (by omega)
  rw [so_zero] at this
  refine oV this rfl ?_
  have h2 := h (by rw [hlen]; exact hs')
  rwa [hlen] at h2
/-- A field of a value. -/
theorem ow_fieldV {i off sz : Nat} {ft : TypeId} {cs vs : List Value} {v : Value} (hF : (match P.underlying t with | some (.struct fs) => (fs[i]?).map (fun fd => (fd.offset, fd.type)) | _ => none) = some (off, ft)) (hT : TyC P ft agg zero)
    (hx : ev n f x = .agg cs.toArray) (hv : (cs.drop off).take zero.length = vs) (hl : vs.length = zero.length) (hvv : (bif agg then .agg vs.toArray else vs.headD undef) = v)
    (h : OW P r n all K rest (upd f d v) ds w) : OW P r n all K (⟨some d, .field t x i, T, pos, af, none⟩ :: rest) f ds w := by
  refine oV (v := v) ?_ rfl h
  cases hu : P.underlying t with
  | none => rw [hu] at hF; cases hF
  | some td =>
    cases td with
    | struct fs =>
      rw [hu] at hF
      simp only at hF
      cases hf : fs[i]? with
      | none => rw [hf] at hF; cases hF
      | some fd =>
        rw [hf] at hF
        simp only [Option.map_some, Option.some.injEq, Prod.mk.injEq] at hF
        obtain ⟨h1, h2⟩ := hF
        have hp : (part fd.type cs.toArray fd.offset).run P w = .ok v w := by
          rw [h1, h2]
          subst hvv
          cases agg with
          | true => simp [part, hT.run_isAgg, hT.run_sizeOf, ← hv, List.extract]
          | false =>
            have h3 := hT.one rfl
            rw [h3] at hl hv
            match vs, hl with
            | [u], _ =>
              have h4 : cs[off]? = some u := by
                have := congrArg (fun l => l[0]?) hv
                simpa using this
              simp [part, hT.run_isAgg, h4]
        simp [execOp, hx, Instr.field, run_underlying hu, hf, asAgg, hp]
    | _ => rw [hu] at hF; cases hF
theorem Rs.lenN {sz m c : Nat} {oa : Option Addr} {X : List E} (h : Rs I sz oa m c (X.flatMap enc)) (hz : ∀ x, (enc x).length = sz) (h0 : 0 < sz) : m = X.length := by
  have := h.1
  rw [flat_len enc sz hz] at this
  exact (Nat.eq_of_mul_eq_mul_right h0 this).symm
end
end Go.HL
