/- Arrays at numbers told by cases; it holds of every program. -/
import Derived.Test.YtllfmfoahloldaaGreatHL18
set_option linter.unusedVariables false
set_option linter.unusedSimpArgs false
set_option linter.unusedSectionVars false
namespace Go.HL
open Go.RowKit
section
variable {P : Program} {r : Option Nat} {n : Nat} {K : KK} {f : FF} {ds : List Deferred} {w w' : World} {all : Array Oper} {rest : List Oper}
variable {T : TypeId} {pos : String} {af : Array Edge} {d : Nat} {I : Im} {l : List HP} {t : TypeId} {agg : Bool} {zero : List Value} {x y : Operand}
theorem slen {x : Value} {oa : Option Addr} {m m' c : Nat} (h : x = .slice oa m c) (hn : m = m') : x = .slice oa m' c := hn ▸ h
theorem ow_indexAq {e : TypeId} {b o len q p : Nat} {i : Int} {k : IntKind} (hu : ArrT P t len e) (hT : TyC P e agg zero) (hx : ev n f x = .pointer (some ⟨b, o, none⟩)) (hy : ev n f y = .int k i)
    (hq : i = (q : Int)) (hi : q < len) (hp : o + q * zero.length = p) (h : OW P r n all K rest (upd f d (.pointer (some ⟨b, p, none⟩))) ds w) :
    OW P r n all K (⟨some d, .indexAddr t x y, T, pos, af, none⟩ :: rest) f ds w := by
  subst hq; subst hp
  exact ow_indexA (i := (q : Int)) hu hT hx hy (by omega) (by omega) h
end
end Go.HL
