/- Typed forms of some rules; they hold of every program. -/
import Derived.Test.YtllfmfoahloldaaGreatHL7
set_option linter.unusedVariables false
set_option linter.unusedSimpArgs false
set_option linter.unusedSectionVars false
namespace Go.HL
open Go.RowKit
section
variable {P : Program} {r : Option Nat} {n : Nat} {K : KK} {f : FF} {ds : List Deferred} {w w' : World} {all : Array Oper} {rest : List Oper}
variable {T : TypeId} {pos : String} {af : Array Edge} {d : Nat} {I : Im} {l : List HP} {t : TypeId} {agg : Bool} {zero : List Value} {x y : Operand}
variable {dd : Option Nat} {gg : Option (Nat × Bool)} {ρ : Operand → Value}
theorem oJN (m : Nat) {os : List Oper} (S : FF → List Deferred → World → Prop) (h1 : OW P r n all (onlyK S) (os.take m) f ds w) (h2 : ∀ f ds w, S f ds w → OW P r n all K (os.drop m) f ds w) : OW P r n all K os f ds w := by
  have := ow_join (l1 := os.take m) (l2 := os.drop m) S h1 h2
  rwa [List.take_append_drop] at this
theorem x_shrL {k k' : IntKind} {a b m : Int} {T1 T2 : TypeId} (hx : ρ x = .int k a) (hy : ρ y = .int k' b) (h0 : 0 ≤ b) (hm : (2 : Int) ^ (min b.toNat k.bits) = m) : (execOp ρ ⟨dd, .binOp .shr T1 x y T2, T, pos, af, gg⟩).run P w = .ok (.value (.int k (a / m))) w := by
  rw [← hm, ← Int.fdiv_eq_ediv_of_nonneg _ (Int.le_of_lt (Int.pow_pos (by decide)))]
  exact x_shr hx hy h0
theorem x_shlL {k k' : IntKind} {a b m : Int} {T1 T2 : TypeId} (hx : ρ x = .int k a) (hy : ρ y = .int k' b) (h0 : 0 ≤ b) (hm : (2 : Int) ^ (min b.toNat k.bits) = m) : (execOp ρ ⟨dd, .binOp .shl T1 x y T2, T, pos, af, gg⟩).run P w = .ok (.value (.int k (k.wrap (a * m)))) w := by
  rw [← hm]; exact x_shl hx hy h0
theorem x_funcL {fn : Fn} {fi ca : List Operand} {vf vc : List Value} (hf : EvL n f fi vf) (hc : EvL n f ca vc) :
    (execOp (ev n f) ⟨dd, .makeFunc fn fi.toArray ca.toArray, T, pos, af, gg⟩).run P w = .ok (.value (.func fn vf.toArray vc.toArray)) w :=
  x_func (by rw [List.map_toArray, hf.map]) (by rw [List.map_toArray, hc.map])
def FUEL : Nat := 1000000000
attribute [irreducible] FUEL
theorem FUEL_eq : FUEL = 1000000000 := by unfold FUEL; rfl
theorem osl_some {k : Nat} {Tb : TypeId} {sz : Nat} {oa : Option Addr} {m c : Nat} {xs : List Value} (hs : Sat I l w) (hk : l[k]? = some (osl Tb sz oa m c xs)) (hm : 0 < m) : oa.isSome = true := by
  obtain ⟨g, ⟨_, hg⟩, _, _⟩ := hs.focus hk
  rcases hg with ⟨_, h1, _⟩ | ⟨b, cur, h1, _⟩
  · omega
  · rw [h1]; rfl
theorem all_flat {E : Type} {enc : E → List Value} (h : ∀ x, (enc x).all Value.oneCell' = true) (Y : List E) : (Y.flatMap enc).all Value.oneCell' = true := by
  rw [List.all_eq_true]
  intro v hv
  obtain ⟨y, _, hy⟩ := List.mem_flatMap.1 hv
  exact List.all_eq_true.1 (h y) v hy
theorem ow_appendT {E : Type} {enc : E → List Value} {X Y : List E} {k : Nat} {e : TypeId} {oa ob : Option Addr} {c c2 bytes : Nat} (hs : Sat I l w) (hk : l[k]? = some (osl e zero.length oa X.length c (X.flatMap enc)))
    (hu : SliceT P t e) (hT : TyC P e agg zero) (hE : ElT P e zero bytes) (hz1 : zero.all Value.oneCell' = true) (hx : ev n f x = .slice oa X.length c) (hy : ev n f y = .slice ob Y.length c2)
    (hR : Rs I zero.length ob Y.length c2 (Y.flatMap enc)) (h1 : ∀ y, (enc y).all Value.oneCell' = true) (h63 : X.length + Y.length ≤ 1099511627776) (hby : bytes ≤ 128)
    (h : ∀ oa' c' w', Sat I (l.set k (osl e zero.length oa' (X ++ Y).length c' ((X ++ Y).flatMap enc))) w' → OW P r n all K rest (upd f d (.slice oa' (X ++ Y).length c')) ds w') :
    OW P r n all K (⟨some d, .call ⟨.builtin .append, #[x, y], #[t, t]⟩, T, pos, af, none⟩ :: rest) f ds w := by
  refine ow_append hs hk hu hT hE hz1 hx hy hR (all_flat h1 Y) h63 hby fun oa' c' w' hs' => ?_
  have e1 : (X ++ Y).length = X.length + Y.length := List.length_append
  have := h oa' c' w' (by rw [e1, List.flatMap_append]; exact hs')
  rw [e1] at this
  exact this
theorem ow_storeT {E : Type} {enc : E → List Value} {X : List E} {xx : E} {i : Int} {k m : Nat} {Tb : TypeId} {oa : Option Addr} {c : Nat} {vs : List Value} {v : Value} (hs : Sat I l w) (hk : l[k]? = some (osl Tb zero.length oa m c (X.flatMap enc)))
    (hx : ev n f x = .pointer (some (ea oa (i.toNat * zero.length)))) (hy : ev n f y = v)
    (hT : TyC P t agg zero) (hvc : v.cells = vs.toArray) (hv : enc xx = vs) (h1 : vs.all Value.oneCell' = true) (henc : ∀ x, (enc x).length = zero.length) (h0z : 0 < zero.length) (hi0 : 0 ≤ i) (hi : i < (X.length : Int))
    (h : ∀ w', Sat I (l.set k (osl Tb zero.length oa m c ((X.set i.toNat xx).flatMap enc))) w' → OW P r n all K rest f ds w') : OW P r n all K (⟨none, .store t x y, T, pos, af, none⟩ :: rest) f ds w := by
  have hvl : vs.length = zero.length := by rw [← hv]; exact henc xx
  have hi' : i.toNat < X.length := by omega
  have hfl := flat_len enc zero.length henc X
  have hle : (i.toNat + 1) * zero.length ≤ X.length * zero.length := Nat.mul_le_mul_right _ hi'
  rw [Nat.succ_mul] at hle
  refine ow_storeO hs hk hx hy hT hvc hvl (by rw [hfl, hvl]; exact hle) (by omega) h1 (xs' := (X.set i.toNat xx).flatMap enc) ?_ h
  rw [hvl, ← hv]
  exact flat_set henc xx X i.toNat hi'
end
end Go.HL
