/- Calls through interfaces whose type is known, and copies into slices of one's own; it holds of every program. -/
import Derived.Test.YtllfmfoahloldaaGreatHL19
import Derived.Laws.IdiomCopy
set_option linter.unusedVariables false
set_option linter.unusedSimpArgs false
set_option linter.unusedSectionVars false
namespace Go.HL
open Go.RowKit
section
variable {P : Program} {r : Option Nat} {n : Nat} {K : KK} {f : FF} {ds : List Deferred} {w w' : World} {all : Array Oper} {rest : List Oper}
variable {T : TypeId} {pos : String} {af : Array Edge} {d : Nat} {I : Im} {l : List HP} {t : TypeId} {agg : Bool} {zero : List Value} {x y : Operand}
variable {dd : Option Nat} {gg : Option (Nat × Bool)}
theorem x_mkiface {ρ : Operand → Value} {v : Value} (hu : (match P.underlying t with | some (.interface _) => false | some _ => true | none => false) = true) (hx : ρ x = v) :
    (execOp ρ ⟨dd, .makeInterface t x, T, pos, af, gg⟩).run P w = .ok (.value (.iface t v)) w := by
  cases hd : P.underlying t with
  | none => rw [hd] at hu; cases hu
  | some td =>
    rw [hd] at hu
    simp only [execOp, hx, Instr.makeInterface, Sem.run_bind, run_underlying hd, Result.andThen_ok]
    cases td <;> first | rfl | cases hu
theorem ow_invoke {dst : Option Nat} {xr : Operand} {name : String} {rv : Value} {k : FuncId} {vs : List Value} {ops : List Operand} {ts : Array TypeId} {Post : Value → World → Prop} (hr : ev n f xr = .iface t rv) (ha : EvL n f ops vs)
    (hm : ∀ w, (method (P.types.size + Made.depth) t rv name).run P w = .ok (k, rv) w) (hE : Go.Proofs.Enters P k) (hc : CV P k (rv :: vs) w Post)
    (h : ∀ v w', Post v w' → OW P r n all K rest (updO f dst v) ds w') : OW P r n all K (⟨dst, .call ⟨.invoke xr name, ops.toArray, ts⟩, T, pos, af, none⟩ :: rest) f ds w := by
  refine wpListIn_step rfl ⟨fun _ _ => trivial, ?_⟩
  rw [semAt_nd _ _ rfl, eval_Fr]
  have hrun : (execOp (ev n f) ⟨dst, .call ⟨.invoke xr name, ops.toArray, ts⟩, T, pos, af, none⟩).run P w = .ok (.enter k (rv :: vs).toArray) w := by
    have hmm := ha.map
    have h2 := hE (rv :: vs).toArray w
    have hp : (program : Sem Program).run P w = .ok P w := rfl
    have h3 : (#[Value.iface t rv] ++ vs.toArray).extract 1 (#[Value.iface t rv] ++ vs.toArray).size = vs.toArray := by simp
    have h4 : (#[Value.iface t rv] ++ vs.toArray)[0]? = some (Value.iface t rv) := by simp
    have h5 : #[rv] ++ vs.toArray = (rv :: vs).toArray := by simp
    simp only [execOp, resolve, List.map_toArray, hmm, hr, Sem.run_bind, Sem.run_pure, Result.andThen_ok, invoke, h4, h3, callMethod, hp, hm, h5, h2]
  rw [hrun, Oper.uponIn_enter]
  refine ⟨fun hd => by simp [Fw] at hd, callsIn_Fw _ (Calls.mono hc ?_)⟩
  rintro e w' ⟨v, rfl, hp⟩
  show wpListIn _ _ _ _ _ _ _ _
  rw [put_Fr]
  exact h v w' hp
/-- A copy into a slice of one's own, from a place on. -/
theorem ow_copyO {E : Type} {enc : E → List Value} {X Y : List E} {k lo : Nat} {e : TypeId} {oa ob oc : Option Addr} {m c m2 c2 dl dc : Nat} {T2 : TypeId} (hs : Sat I l w) (hk : l[k]? = some (osl e zero.length oa m c (X.flatMap enc)))
    (hu : SliceT P t e) (hT : TyC P e agg zero) (hz1 : zero.length = 1) (hx : ev n f x = .slice oc dl dc) (hoc : so oa c lo zero.length = oc) (hdl : m - lo = dl) (hy : ev n f y = .slice ob m2 c2) (hR : Rs I zero.length ob m2 c2 (Y.flatMap enc))
    (henc : ∀ x, (enc x).length = zero.length) (h1 : ∀ y, (enc y).all Value.oneCell' = true) (hfit : lo + Y.length ≤ X.length)
    (h : ∀ w', Sat I (l.set k (osl e zero.length oa m c ((X.take lo ++ Y ++ X.drop (lo + Y.length)).flatMap enc))) w' → OW P r n all K rest (upd f d (.int .i64 (Y.length : Int))) ds w') :
    OW P r n all K (⟨some d, .call ⟨.builtin .copy, #[x, y], #[t, T2]⟩, T, pos, af, none⟩ :: rest) f ds w := by
  have h0z : 0 < zero.length := by omega
  have hm := osl_n hs hk henc h0z
  have hm2 := hR.lenN henc h0z
  obtain ⟨i, hi, he⟩ := Option.map_eq_some_iff.1 hT.info
  simp only [Prod.mk.injEq] at he
  have hsz : (P.info? e).map (·.size) = some 1 := by rw [hi]; simp [he.1, hz1]
  subst hoc hdl
  rcases Nat.eq_zero_or_pos Y.length with hY | hY
  · have hYn : Y = [] := List.length_eq_zero_iff.1 hY
    subst hYn
    simp only [List.length_nil] at hm2
    subst hm2
    have hrun := run_copy_none (P := P) w t T2 T e (so oa c lo zero.length) ob (m - lo) dc 0 c2 hu hsz (by simp)
    refine oV (v := .int .i64 ((0 : Nat) : Int)) (by simp only [execOp, resolve, List.map_toArray, List.map_cons, List.map_nil, hx, hy, Sem.run_bind, Sem.run_pure, Result.andThen_ok, invoke, builtin, hrun]; rfl) rfl ?_
    have := h w (by
      simp only [List.append_nil, List.length_nil, Nat.add_zero, List.take_append_drop]
      exact hs.weaken hk fun g hg => hg)
    exact this
  · obtain ⟨g, ⟨hlen, hg⟩, hgg, hclose⟩ := hs.focus hk
    rcases hg with ⟨e0, e1, e2⟩ | ⟨b, cur, e1, e2, e3, e4, e5, e6⟩
    · omega
    · subst e1
      obtain ⟨a, rfl⟩ := Option.isSome_iff_exists.1 (hR.some (by omega))
      have hb := (hgg b _ e2).1
      have hso : so (some ⟨b, 0, none⟩) c lo zero.length = some ⟨b, lo * zero.length, none⟩ := by
        unfold so
        rw [if_neg (by omega)]
        simp only [Option.map_some, add_none, Nat.zero_add]
      rw [hso] at hx
      have hyl : (Y.flatMap enc).length = Y.length := by rw [flat_len enc _ henc, hz1, Nat.mul_one]
      have hxl : (X.flatMap enc).length = X.length := by rw [flat_len enc _ henc, hz1, Nat.mul_one]
      have hone : ∀ v ∈ Y.flatMap enc, v.oneCell' = true := fun v hv => List.all_eq_true.1 (all_flat h1 Y) v hv
      have hsrc : ∀ j v, (Y.flatMap enc)[j]? = some v → w.cell? (a.add j) = some v := fun j v hj => by
        have := CA_Rs hs hR 0 (Y.flatMap enc).length j v (by rw [List.drop_zero, List.take_length]; exact hj)
        simpa [ea, Addr.add] using this
      have hcs : cur.size = c := by rw [e5, hz1, Nat.mul_one]
      have hlo : lo * zero.length = lo := by rw [hz1, Nat.mul_one]
      rw [hlo] at hx
      have hrun := run_copy_row (P := P) w t T2 T e b lo (m - lo) dc a m2 c2 cur e (Y.flatMap enc) hu hsz hb (by rw [hyl, hm2]; exact (Nat.min_eq_left (by omega)).symm) hsrc (by rw [hyl]; omega) hone
      rw [hyl] at hrun
      refine oV (w' := w.setRow b (cur.toList.take lo ++ Y.flatMap enc ++ cur.toList.drop (lo + Y.length)).toArray) (v := .int .i64 (Y.length : Int)) (by simp only [execOp, resolve, List.map_toArray, List.map_cons, List.map_nil, hx, hy, Sem.run_bind, Sem.run_pure, Result.andThen_ok, invoke, builtin, hrun]; rfl) rfl (h _ ?_)
      have hkey : (cur.toList.take lo ++ Y.flatMap enc ++ cur.toList.drop (lo + Y.length)).take (m * zero.length) = (X.take lo ++ Y ++ X.drop (lo + Y.length)).flatMap enc := by
        have h6 : cur.toList.take X.length = X.flatMap enc := by rw [← e6, hz1, Nat.mul_one, hm]
        rw [hz1, Nat.mul_one, hm, List.flatMap_append, List.flatMap_append]
        have h7 : (X.take lo).flatMap enc = (X.flatMap enc).take lo := by have := flat_take henc X lo; rw [hz1, Nat.mul_one] at this; exact this.symm
        have h8 : (X.drop (lo + Y.length)).flatMap enc = (X.flatMap enc).drop (lo + Y.length) := by have := flat_drop enc _ henc X (lo + Y.length); rw [hz1, Nat.mul_one] at this; exact this.symm
        rw [h7, h8, ← h6, List.take_append, List.take_append, List.take_take, List.drop_take, List.take_take]
        simp only [List.length_append, List.length_take, hyl, Array.length_toList]
        have a1 : min X.length lo = lo := by omega
        have a2 : min lo cur.size = lo := by omega
        have a3 : min lo X.length = lo := by omega
        rw [a1, a2, a3]
        have a4 : (Y.flatMap enc).take (X.length - lo) = Y.flatMap enc := List.take_of_length_le (by omega)
        rw [a4]
      refine hclose _ (fun b' => if b' = b then some (.cells (cur.toList.take lo ++ Y.flatMap enc ++ cur.toList.drop (lo + Y.length)).toArray e (0, 0)) else none) _ ?_ rfl rfl ⟨rfl, Nat.le_refl _⟩ ?_ ?_ ?_
      · refine ⟨?_, .inr ⟨b, _, rfl, if_pos rfl, e3, e4, ?_, ?_⟩⟩
        · rw [flat_len enc _ henc, hm]
          simp only [List.length_append, List.length_take, List.length_drop]
          congr 1; omega
        · rw [← e5]
          simp only [List.size_toArray, List.length_append, List.length_take, List.length_drop, hyl, Array.length_toList]; omega
        · simpa using hkey
      · intro b' o' e'
        split at e'
        · rename_i hb'
          subst hb'
          cases e'
          exact setRow_heap w b' cur _ e (0, 0) hb
        · cases e'
      · intro b' hb'
        split at hb'
        · rename_i e'; subst e'; exact .inl (by rw [e2]; rfl)
        · cases hb'
      · intro b' hlt hn
        refine setRow_other _ _ _ _ fun e' => ?_
        subst e'
        rw [e2] at hn
        cases hn
end
end Go.HL
