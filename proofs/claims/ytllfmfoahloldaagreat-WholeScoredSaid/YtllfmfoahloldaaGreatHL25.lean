/- Short names: layouts of cells, moves, loads of one cell. Printed by a program of ours. -/
import Derived.Test.YtllfmfoahloldaaGreatHL24
set_option linter.unusedVariables false
namespace Go.HL
abbrev iN (x : Int) : Value := .int .i64 x
abbrev pQ (b o : Nat) : Value := .pointer (some ⟨b, o, none⟩)
abbrev T0x := Int × Int × List Int × Int × Int × List Int × Int
abbrev T1x := Int × Int × Int × Int × Int
abbrev T2x := Int × Int × Int × Int × Int × Int × Int × Int × Int × Int × Int × List Int × Int × Int × Int × List Bool
abbrev T3x := Int × Int × Int × Int × Int × Int × Int × Int × Int × Int × Int × List Int × Int × Int × Int × List Bool × (List (Int × Int × Int × Int × Int)) × List Int × Int
abbrev T4x := Int × Int × Int × Int × Int × Int × Int × Int × Int × Int × Int × List Int
abbrev cL0 (x0 : Int) (x1 : Int) (a2 : Option Addr) (n2 c2 : Nat) : List Value := [.int .i64 x0, .int .i64 x1, .slice a2 n2 c2]
abbrev cL1 (x0 : Int) (x1 : Int) (x2 : Int) : List Value := [.int .i64 x0, .int .i64 x1, .int .i64 x2]
abbrev rL2 {E2 : Type} (x : Int × Int × List E2) (a2 : Option Addr) (c2 : Nat) : List Value := [.int .i64 x.1, .int .i64 x.2.1, .slice a2 x.2.2.length c2]
abbrev cL3 (x0 : Int) (x1 : Int) (x2 : Int) (x3 : Int) (x4 : Int) : List Value := [.int .i64 x0, .int .i64 x1, .int .i64 x2, .int .i64 x3, .int .i64 x4]
abbrev cL4 (x0 : Int) (x1 : Int) (x2 : Int) (x3 : Int) (a4 : Option Addr) (n4 c4 : Nat) (x5 : Int) (x6 : Int) : List Value := [.int .i64 x0, .int .i64 x1, .int .i64 x2, .int .i64 x3, .slice a4 n4 c4, .int .i64 x5, .int .i64 x6]
abbrev rL5 (x : Int × Int × Int)  : List Value := [.int .i64 x.1, .int .u8 x.2.1, .int .i64 x.2.2]
abbrev cL6 (x0 : Int) (x1 : Int) (x2 : Int) : List Value := [.int .i64 x0, .int .u8 x1, .int .i64 x2]
abbrev cL7 (x0 : Int) (x1 : Int) (a2 : Option Addr) (n2 c2 : Nat) (x3 : Int) (x4 : Int) (a5 : Option Addr) (n5 c5 : Nat) : List Value := [.int .i64 x0, .int .i64 x1, .slice a2 n2 c2, .int .i64 x3, .int .i64 x4, .slice a5 n5 c5]
abbrev cL8 (x0 : Int) (x1 : Int) (x2 : Int) (a3 : Option Addr) (n3 c3 : Nat) : List Value := [.int .i64 x0, .int .i64 x1, .int .i64 x2, .slice a3 n3 c3]
abbrev cL9 (x0 : Int) (x1 : Int) (x2 : Int) (x3 : Int) (x4 : Int) (x5 : Int) (x6 : Int) (x7 : Int) (x8 : Int) (x9 : Int) (x10 : Int) (a11 : Option Addr) (n11 c11 : Nat) (x12 : Int) (x13 : Int) (x14 : Int) (a15 : Option Addr) (n15 c15 : Nat) : List Value := [.int .u8 x0, .int .i64 x1, .int .i64 x2, .int .i64 x3, .int .i64 x4, .int .i64 x5, .int .i64 x6, .int .i64 x7, .int .u8 x8, .int .i64 x9, .int .i64 x10, .slice a11 n11 c11, .int .u8 x12, .int .i64 x13, .int .i64 x14, .slice a15 n15 c15]
abbrev rL10 {E11 : Type} {E15 : Type} (x : Int × Int × Int × Int × Int × Int × Int × Int × Int × Int × Int × List E11 × Int × Int × Int × List E15) (a11 : Option Addr) (c11 : Nat) (a15 : Option Addr) (c15 : Nat) : List Value := [.int .u8 x.1, .int .i64 x.2.1, .int .i64 x.2.2.1, .int .i64 x.2.2.2.1, .int .i64 x.2.2.2.2.1, .int .i64 x.2.2.2.2.2.1, .int .i64 x.2.2.2.2.2.2.1, .int .i64 x.2.2.2.2.2.2.2.1, .int .u8 x.2.2.2.2.2.2.2.2.1, .int .i64 x.2.2.2.2.2.2.2.2.2.1, .int .i64 x.2.2.2.2.2.2.2.2.2.2.1, .slice a11 x.2.2.2.2.2.2.2.2.2.2.2.1.length c11, .int .u8 x.2.2.2.2.2.2.2.2.2.2.2.2.1, .int .i64 x.2.2.2.2.2.2.2.2.2.2.2.2.2.1, .int .i64 x.2.2.2.2.2.2.2.2.2.2.2.2.2.2.1, .slice a15 x.2.2.2.2.2.2.2.2.2.2.2.2.2.2.2.length c15]
abbrev cL11 (x0 : Int) (x1 : Int) (x2 : Int) (x3 : Int) (x4 : Int) (x5 : Int) (x6 : Int) (x7 : Int) (x8 : Int) (x9 : Int) (x10 : Int) (a11 : Option Addr) (n11 c11 : Nat) (x12 : Int) (x13 : Int) (x14 : Int) (a15 : Option Addr) (n15 c15 : Nat) (a16 : Option Addr) (n16 c16 : Nat) (a17 : Option Addr) (n17 c17 : Nat) (x18 : Int) : List Value := [.int .u8 x0, .int .i64 x1, .int .i64 x2, .int .i64 x3, .int .i64 x4, .int .i64 x5, .int .i64 x6, .int .i64 x7, .int .u8 x8, .int .i64 x9, .int .i64 x10, .slice a11 n11 c11, .int .u8 x12, .int .i64 x13, .int .i64 x14, .slice a15 n15 c15, .slice a16 n16 c16, .slice a17 n17 c17, .int .i64 x18]
abbrev rL12 {E11 : Type} {E15 : Type} {E16 : Type} {E17 : Type} (x : Int × Int × Int × Int × Int × Int × Int × Int × Int × Int × Int × List E11 × Int × Int × Int × List E15 × List E16 × List E17 × Int) (a11 : Option Addr) (c11 : Nat) (a15 : Option Addr) (c15 : Nat) (a16 : Option Addr) (c16 : Nat) (a17 : Option Addr) (c17 : Nat) : List Value := [.int .u8 x.1, .int .i64 x.2.1, .int .i64 x.2.2.1, .int .i64 x.2.2.2.1, .int .i64 x.2.2.2.2.1, .int .i64 x.2.2.2.2.2.1, .int .i64 x.2.2.2.2.2.2.1, .int .i64 x.2.2.2.2.2.2.2.1, .int .u8 x.2.2.2.2.2.2.2.2.1, .int .i64 x.2.2.2.2.2.2.2.2.2.1, .int .i64 x.2.2.2.2.2.2.2.2.2.2.1, .slice a11 x.2.2.2.2.2.2.2.2.2.2.2.1.length c11, .int .u8 x.2.2.2.2.2.2.2.2.2.2.2.2.1, .int .i64 x.2.2.2.2.2.2.2.2.2.2.2.2.2.1, .int .i64 x.2.2.2.2.2.2.2.2.2.2.2.2.2.2.1, .slice a15 x.2.2.2.2.2.2.2.2.2.2.2.2.2.2.2.1.length c15, .slice a16 x.2.2.2.2.2.2.2.2.2.2.2.2.2.2.2.2.1.length c16, .slice a17 x.2.2.2.2.2.2.2.2.2.2.2.2.2.2.2.2.2.1.length c17, .int .i64 x.2.2.2.2.2.2.2.2.2.2.2.2.2.2.2.2.2.2]
abbrev cL13 (x0 : Int) (x1 : Int) (x2 : Int) (x3 : Int) (x4 : Int) (x5 : Int) (x6 : Int) (x7 : Int) (x8 : Int) (x9 : Int) (x10 : Int) (a11 : Option Addr) (n11 c11 : Nat) : List Value := [.int .u8 x0, .int .i64 x1, .int .i64 x2, .int .i64 x3, .int .i64 x4, .int .i64 x5, .int .i64 x6, .int .i64 x7, .int .i64 x8, .int .i64 x9, .int .u8 x10, .slice a11 n11 c11]
abbrev cL14 (x0 : Int) (x1 : Int) (x2 : Int) (x3 : Int) (x4 : Int) (x5 : Int) : List Value := [.int .i64 x0, .int .i64 x1, .int .i64 x2, .int .i64 x3, .int .i64 x4, .int .u8 x5]
abbrev rL15 (x : Int × Int × Int × Int × Int)  : List Value := [.int .i64 x.1, .int .i64 x.2.1, .int .i64 x.2.2.1, .int .i64 x.2.2.2.1, .int .i64 x.2.2.2.2]
abbrev cL16 (x0 : Int) (x1 : Int) (a2 : Option Addr) (n2 c2 : Nat) (x3 : Int) (a4 : Option Addr) (n4 c4 : Nat) : List Value := [.int .i64 x0, .int .i64 x1, .slice a2 n2 c2, .int .i64 x3, .slice a4 n4 c4]
abbrev rL17 {E11 : Type} (x : Int × Int × Int × Int × Int × Int × Int × Int × Int × Int × Int × List E11) (a11 : Option Addr) (c11 : Nat) : List Value := [.int .u8 x.1, .int .i64 x.2.1, .int .i64 x.2.2.1, .int .i64 x.2.2.2.1, .int .i64 x.2.2.2.2.1, .int .i64 x.2.2.2.2.2.1, .int .i64 x.2.2.2.2.2.2.1, .int .i64 x.2.2.2.2.2.2.2.1, .int .i64 x.2.2.2.2.2.2.2.2.1, .int .i64 x.2.2.2.2.2.2.2.2.2.1, .int .u8 x.2.2.2.2.2.2.2.2.2.2.1, .slice a11 x.2.2.2.2.2.2.2.2.2.2.2.length c11]
abbrev cL18 (a0 : Option Addr) (n0 c0 : Nat) (x1 : Int) (x2 : Int) (x3 : Int) : List Value := [.slice a0 n0 c0, .int .i64 x1, .int .i64 x2, .int .i64 x3]
abbrev cL19 (x0 : Int) (a1 : Option Addr) (n1 c1 : Nat) (a2 : Option Addr) (n2 c2 : Nat) : List Value := [.int .i64 x0, .slice a1 n1 c1, .slice a2 n2 c2]
abbrev cL20 (x0 : Bool) (x1 : Bool) (x2 : Bool) : List Value := [.bool x0, .bool x1, .bool x2]
abbrev cL21 (x0 : Int) (x1 : Int) (a2 : Option Addr) (n2 c2 : Nat) (x3 : Int) (x4 : Int) (a5 : Option Addr) (n5 c5 : Nat) (a6 : Option Addr) (n6 c6 : Nat) (x7 : Int) (x8 : Int) (x9 : Int) : List Value := [.int .u8 x0, .int .u8 x1, .slice a2 n2 c2, .int .i8 x3, .int .u8 x4, .slice a5 n5 c5, .slice a6 n6 c6, .int .i32 x7, .int .u16 x8, .int .u8 x9]
abbrev cL22 (a0 : Option Addr) (n0 c0 : Nat) (a1 : Option Addr) (n1 c1 : Nat) (a2 : Option Addr) (n2 c2 : Nat) (a3 : Option Addr) (n3 c3 : Nat) : List Value := [.slice a0 n0 c0, .slice a1 n1 c1, .slice a2 n2 c2, .slice a3 n3 c3]
theorem nLe {a b : Nat} (h : Nat.ble a b = true) : a ≤ b := Nat.le_of_ble_eq_true h
theorem dT {p : Prop} [Decidable p] (h : p) : decide p = true := decide_eq_true h
theorem dF {p : Prop} [Decidable p] (h : ¬ p) : decide p = false := decide_eq_false h
theorem bF {b : Bool} (h : ¬ b = true) : b = false := Bool.eq_false_iff.2 h
theorem oJ {E : Type} {a b : E} (h : some a = some b) : a = b := Option.some.inj h
theorem iR {I : Im} : Im.le I I := Im.le.refl _
theorem sQR {P : Program} {r : Option Nat} {n : Nat} {K : KK} {f : FF} {ds : List Deferred} {w : World} {a b : Code} (h : CW P r n a (seqK P r n b K) f ds w) : seqK P r n (.seq a b) K .normal f ds w := sK (cQ h)
section
variable {P : Program} {r : Option Nat} {n : Nat} {K : KK} {f : FF} {ds : List Deferred} {w : World} {all : Array Oper} {rest : List Oper} {T : TypeId} {pos : String} {af : Array Edge} {d : Nat} {x : Operand} {I : Im} {l : List HP} {t : TypeId}
theorem mI {k : IntKind} {a : Int} (hx : ev n f x = .int k a) (h : OW P r n all K rest (upd f d (.int k a)) ds w) : OW P r n all K (⟨some d, .move x, T, pos, af, none⟩ :: rest) f ds w := oV (xM hx) rfl h
theorem mB {a : Bool} (hx : ev n f x = .bool a) (h : OW P r n all K rest (upd f d (.bool a)) ds w) : OW P r n all K (⟨some d, .move x, T, pos, af, none⟩ :: rest) f ds w := oV (xM hx) rfl h
theorem mS {a : Option Addr} {m c : Nat} (hx : ev n f x = .slice a m c) (h : OW P r n all K rest (upd f d (.slice a m c)) ds w) : OW P r n all K (⟨some d, .move x, T, pos, af, none⟩ :: rest) f ds w := oV (xM hx) rfl h
theorem mP {a : Option Addr} (hx : ev n f x = .pointer a) (h : OW P r n all K rest (upd f d (.pointer a)) ds w) : OW P r n all K (⟨some d, .move x, T, pos, af, none⟩ :: rest) f ds w := oV (xM hx) rfl h
theorem mA {a : Array Value} (hx : ev n f x = .agg a) (h : OW P r n all K rest (upd f d (.agg a)) ds w) : OW P r n all K (⟨some d, .move x, T, pos, af, none⟩ :: rest) f ds w := oV (xM hx) rfl h
theorem asI {k : IntKind} {a : Int} (hx : ev n f x = .int k a) (h : OW P r n all K rest (upd f d (.int k a)) ds w) : OW P r n all K (⟨some d, .assign x, T, pos, af, none⟩ :: rest) f ds w := oV (xA hx) rfl h
theorem asB {a : Bool} (hx : ev n f x = .bool a) (h : OW P r n all K rest (upd f d (.bool a)) ds w) : OW P r n all K (⟨some d, .assign x, T, pos, af, none⟩ :: rest) f ds w := oV (xA hx) rfl h
theorem asS {a : Option Addr} {m c : Nat} (hx : ev n f x = .slice a m c) (h : OW P r n all K rest (upd f d (.slice a m c)) ds w) : OW P r n all K (⟨some d, .assign x, T, pos, af, none⟩ :: rest) f ds w := oV (xA hx) rfl h
theorem asP {a : Option Addr} (hx : ev n f x = .pointer a) (h : OW P r n all K rest (upd f d (.pointer a)) ds w) : OW P r n all K (⟨some d, .assign x, T, pos, af, none⟩ :: rest) f ds w := oV (xA hx) rfl h
theorem asA {a : Array Value} (hx : ev n f x = .agg a) (h : OW P r n all K rest (upd f d (.agg a)) ds w) : OW P r n all K (⟨some d, .assign x, T, pos, af, none⟩ :: rest) f ds w := oV (xA hx) rfl h
theorem one_at {cs : List Value} {off : Nat} {v z : Value} (hv : cs[off]? = some v) : (cs.drop off).take [z].length = [v] := by
  obtain ⟨h, e⟩ := List.getElem?_eq_some_iff.1 hv
  rw [List.drop_eq_getElem_cons h, e]; rfl
theorem ld1 {k b off : Nat} {Tb : TypeId} {cs : List Value} {v z : Value} (hs : Sat I l w) (hk : l[k]? = some (blk b Tb cs)) (hx : ev n f x = .pointer (some ⟨b, off, none⟩))
    (hT : TyC P t false [z]) (hv : cs[off]? = some v) (h : OW P r n all K rest (upd f d v) ds w) : OW P r n all K (⟨some d, .load t x, T, pos, af, none⟩ :: rest) f ds w := oL (vs := [v]) hs hk hx hT (one_at hv) rfl rfl h
theorem ld1I {b off : Nat} {Tb : TypeId} {cs : List Value} {v z : Value} (hs : Sat I l w) (hI : Ib I b Tb cs) (hx : ev n f x = .pointer (some ⟨b, off, none⟩))
    (hT : TyC P t false [z]) (hv : cs[off]? = some v) (h : OW P r n all K rest (upd f d v) ds w) : OW P r n all K (⟨some d, .load t x, T, pos, af, none⟩ :: rest) f ds w := ow_loadI (vs := [v]) hs hI hx hT (one_at hv) rfl rfl h
end
end Go.HL
