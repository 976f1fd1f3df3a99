/- The rules of single operations that touch no memory; they hold of every program. -/
import Derived.Test.YtllfmfoahloldaaGreatHL1
import Derived.Laws.Entries
import Derived.ChangeKeysEq
set_option linter.unusedVariables false
set_option linter.unusedSimpArgs false
set_option linter.unusedSectionVars false
namespace Go.HL

/-- Operations in a row. -/
def OW (P : Program) (r : Option Nat) (n : Nat) (all : Array Oper) (K : KK) (l : List Oper) (f : FF) (ds : List Deferred) (w : World) : Prop :=
  wpListIn (Fw r) 0 P all (QK n K) l ⟨Fr n f, ds⟩ w
section ops
variable {P : Program} {r : Option Nat} {n : Nat} {K : KK} {f : FF} {ds : List Deferred} {w w' : World} {all : Array Oper} {rest : List Oper}
theorem cR {id : Nat} {l : List Oper} (h : OW P r n l.toArray K l f ds w) : CW P r n (.region id l.toArray false) K f ds w := wpIn_region_lit h
theorem oN (h : K .normal f ds w) : OW P r n all K [] f ds w := ⟨f, ds, rfl, h⟩
def nd : Op → Bool
  | .defer _ => false
  | _ => true
theorem semAt_nd (ρ : Operand → Value) (o : Oper) (h : nd o.op = true) : Oper.semAt r ρ o = execOp ρ o := by
  cases r with
  | none => rfl
  | some l => exact Oper.semAt_some l ρ o (fun c e => by rw [e] at h; cases h)
theorem wpListIn_step {o : Oper} (hg : o.guard = none) (h : o.wpIn (Fw r) 0 P ⟨Fr n f, ds⟩ w (wpListIn (Fw r) 0 P all (QK n K) rest) (QK n K)) : OW P r n all K (o :: rest) f ds w := by
  show wpListIn _ _ _ _ _ _ _ _
  unfold wpListIn
  rw [if_pos (by simp [Region.wanted, hg])]
  exact h
theorem ow_run {o : Oper} {v : Value} (hg : o.guard = none) (hd : nd o.op = true) (hv : (execOp (ev n f) o).run P w = .ok (.value v) w')
    (h : OW P r n all K rest (updO f o.dst v) ds w') : OW P r n all K (o :: rest) f ds w := by
  refine wpListIn_step hg ⟨fun _ _ => trivial, ?_⟩
  rw [semAt_nd _ _ hd, eval_Fr, hv, Oper.uponIn_value, put_Fr]
  exact h
theorem ow_skip' {o : Oper} (hg : o.guard = none) (hd : nd o.op = true) (hv : (execOp (ev n f) o).run P w = .ok .skip w')
    (h : OW P r n all K rest (updO f o.dst undef) ds w') : OW P r n all K (o :: rest) f ds w := by
  refine wpListIn_step hg ⟨fun _ _ => trivial, ?_⟩
  rw [semAt_nd _ _ hd, eval_Fr, hv, Oper.uponIn_skip, put_Fr]
  exact h
variable {op : Op} {T : TypeId} {pos : String} {af : Array Edge} {d : Nat}
theorem oV {v : Value} (hv : (execOp (ev n f) ⟨some d, op, T, pos, af, none⟩).run P w = .ok (.value v) w') (hd : nd op = true)
    (h : OW P r n all K rest (upd f d v) ds w') : OW P r n all K (⟨some d, op, T, pos, af, none⟩ :: rest) f ds w := ow_run rfl hd hv h
theorem ow_s (hv : (execOp (ev n f) ⟨none, op, T, pos, af, none⟩).run P w = .ok .skip w') (hd : nd op = true)
    (h : OW P r n all K rest f ds w') : OW P r n all K (⟨none, op, T, pos, af, none⟩ :: rest) f ds w := ow_skip' rfl hd hv h
/-- A guard that lets by, and one that does not. -/
theorem oG {dst : Option Nat} {j : Nat} {want : Bool} (hw : yl all n f j = some want) (h : OW P r n all K (⟨dst, op, T, pos, af, none⟩ :: rest) f ds w) :
    OW P r n all K (⟨dst, op, T, pos, af, some (j, want)⟩ :: rest) f ds w := by
  show wpListIn _ _ _ _ _ _ _ _
  have h' : wpListIn (Fw r) 0 P all (QK n K) (⟨dst, op, T, pos, af, none⟩ :: rest) ⟨Fr n f, ds⟩ w := h
  unfold wpListIn at h' ⊢
  rw [if_pos (by simp [Region.wanted, yielded_Fr, hw])]
  rw [if_pos (by simp [Region.wanted])] at h'
  exact h'
theorem oO {dst : Option Nat} {j : Nat} {want b : Bool} (hw : yl all n f j = some b) (hne : (b == want) = false) (h : OW P r n all K rest (updO f dst undef) ds w) :
    OW P r n all K (⟨dst, op, T, pos, af, some (j, want)⟩ :: rest) f ds w := by
  show wpListIn _ _ _ _ _ _ _ _
  unfold wpListIn
  rw [if_neg (by
    simp only [Region.wanted, yielded_Fr, hw]
    intro e
    rw [beq_iff_eq, Option.some.injEq] at e
    subst e
    cases b <;> simp at hne)]
  refine ⟨fun _ _ => trivial, ?_⟩
  rw [put_Fr]
  exact h

/-! ### Runs of single operations -/
variable {ρ : Operand → Value} {dd : Option Nat} {gg : Option (Nat × Bool)}
theorem xM {x : Operand} {v : Value} (hx : ρ x = v) : (execOp ρ ⟨dd, .move x, T, pos, af, gg⟩).run P w = .ok (.value v) w := by subst hx; rfl
theorem xA {x : Operand} {v : Value} (hx : ρ x = v) : (execOp ρ ⟨dd, .assign x, T, pos, af, gg⟩).run P w = .ok (.value v) w := by subst hx; rfl
theorem xPt {c a b : Operand} {v : Value} (hc : ρ c = .bool true) (ha : ρ a = v) : (execOp ρ ⟨dd, .pick c a b, T, pos, af, gg⟩).run P w = .ok (.value v) w := by
  subst ha; simp [execOp, hc, asBool]
theorem xPf {c a b : Operand} {v : Value} (hc : ρ c = .bool false) (hb : ρ b = v) : (execOp ρ ⟨dd, .pick c a b, T, pos, af, gg⟩).run P w = .ok (.value v) w := by
  subst hb; simp [execOp, hc, asBool]
section bin
variable {x y : Operand} {k : IntKind} {a b : Int} {T1 T2 : TypeId}
theorem x_add (hx : ρ x = .int k a) (hy : ρ y = .int k b) : (execOp ρ ⟨dd, .binOp .add T1 x y T2, T, pos, af, gg⟩).run P w = .ok (.value (.int k (k.wrap (a + b)))) w := by
  simp [execOp, hx, hy, eqGuard, binOp, Op.intArith]
theorem x_sub (hx : ρ x = .int k a) (hy : ρ y = .int k b) : (execOp ρ ⟨dd, .binOp .sub T1 x y T2, T, pos, af, gg⟩).run P w = .ok (.value (.int k (k.wrap (a - b)))) w := by
  simp [execOp, hx, hy, eqGuard, binOp, Op.intArith]
theorem x_mul (hx : ρ x = .int k a) (hy : ρ y = .int k b) : (execOp ρ ⟨dd, .binOp .mul T1 x y T2, T, pos, af, gg⟩).run P w = .ok (.value (.int k (k.wrap (a * b)))) w := by
  simp [execOp, hx, hy, eqGuard, binOp, Op.intArith]
theorem x_quo (hx : ρ x = .int k a) (hy : ρ y = .int k b) (h0 : b ≠ 0) : (execOp ρ ⟨dd, .binOp .quo T1 x y T2, T, pos, af, gg⟩).run P w = .ok (.value (.int k (k.wrap (a.tdiv b)))) w := by
  simp [execOp, hx, hy, eqGuard, binOp, Op.intDiv, h0]
theorem x_rem (hx : ρ x = .int k a) (hy : ρ y = .int k b) (h0 : b ≠ 0) : (execOp ρ ⟨dd, .binOp .rem T1 x y T2, T, pos, af, gg⟩).run P w = .ok (.value (.int k (a.tmod b))) w := by
  simp [execOp, hx, hy, eqGuard, binOp, Op.intDiv, h0]
theorem x_lss (hx : ρ x = .int k a) (hy : ρ y = .int k b) : (execOp ρ ⟨dd, .binOp .lss T1 x y T2, T, pos, af, gg⟩).run P w = .ok (.value (.bool (decide (a < b)))) w := by
  simp [execOp, hx, hy, eqGuard, binOp, Op.intCmp]
theorem x_leq (hx : ρ x = .int k a) (hy : ρ y = .int k b) : (execOp ρ ⟨dd, .binOp .leq T1 x y T2, T, pos, af, gg⟩).run P w = .ok (.value (.bool (decide (a ≤ b)))) w := by
  simp [execOp, hx, hy, eqGuard, binOp, Op.intCmp]
theorem x_gtr (hx : ρ x = .int k a) (hy : ρ y = .int k b) : (execOp ρ ⟨dd, .binOp .gtr T1 x y T2, T, pos, af, gg⟩).run P w = .ok (.value (.bool (decide (b < a)))) w := by
  simp [execOp, hx, hy, eqGuard, binOp, Op.intCmp]
theorem x_geq (hx : ρ x = .int k a) (hy : ρ y = .int k b) : (execOp ρ ⟨dd, .binOp .geq T1 x y T2, T, pos, af, gg⟩).run P w = .ok (.value (.bool (decide (b ≤ a)))) w := by
  simp [execOp, hx, hy, eqGuard, binOp, Op.intCmp]
theorem beq_dec (a b : Int) : (a == b) = decide (a = b) := by
  by_cases h : a = b <;> simp [h]
theorem x_eql (hx : ρ x = .int k a) (hy : ρ y = .int k b) : (execOp ρ ⟨dd, .binOp .eql T1 x y T2, T, pos, af, gg⟩).run P w = .ok (.value (.bool (decide (a = b)))) w := by
  simp [execOp, hx, hy, eqGuard, binOp, Op.intCmp, beq_dec]
theorem x_neq (hx : ρ x = .int k a) (hy : ρ y = .int k b) : (execOp ρ ⟨dd, .binOp .neq T1 x y T2, T, pos, af, gg⟩).run P w = .ok (.value (.bool (!decide (a = b)))) w := by
  simp [execOp, hx, hy, eqGuard, binOp, Op.intCmp, bne, beq_dec]
theorem run_equalB {a b : Bool} {t : TypeId} (hu : P.underlying t = some .bool) : (Op.equal t (.bool a) (.bool b)).run P w = .ok (a == b) w := by
  unfold Op.equal
  rw [show Op.maxDepth = 9999 + 1 from rfl]
  unfold Op.equalIn
  simp [run_underlying hu]
theorem x_eqlB {a b : Bool} (hu : P.underlying T1 = some .bool) (hx : ρ x = .bool a) (hy : ρ y = .bool b) : (execOp ρ ⟨dd, .binOp .eql T1 x y T2, T, pos, af, gg⟩).run P w = .ok (.value (.bool (a == b))) w := by
  simp only [execOp, hx, hy, eqGuard, binOp, Sem.run_bind, run_equalB hu, Result.andThen_ok, Sem.run_pure]
  simp
theorem x_neqB {a b : Bool} (hu : P.underlying T1 = some .bool) (hx : ρ x = .bool a) (hy : ρ y = .bool b) : (execOp ρ ⟨dd, .binOp .neq T1 x y T2, T, pos, af, gg⟩).run P w = .ok (.value (.bool (!(a == b)))) w := by
  simp only [execOp, hx, hy, eqGuard, binOp, Sem.run_bind, run_equalB hu, Result.andThen_ok, Sem.run_pure]
  simp
theorem x_shr {k' : IntKind} (hx : ρ x = .int k a) (hy : ρ y = .int k' b) (h0 : 0 ≤ b) : (execOp ρ ⟨dd, .binOp .shr T1 x y T2, T, pos, af, gg⟩).run P w = .ok (.value (.int k (a.fdiv (2 ^ (min b.toNat k.bits))))) w := by
  have : ¬ b < 0 := by omega
  cases k <;> cases k' <;> simp [execOp, hx, hy, eqGuard, binOp, Op.shift, this]
theorem x_shl {k' : IntKind} (hx : ρ x = .int k a) (hy : ρ y = .int k' b) (h0 : 0 ≤ b) : (execOp ρ ⟨dd, .binOp .shl T1 x y T2, T, pos, af, gg⟩).run P w = .ok (.value (.int k (k.wrap (a * 2 ^ (min b.toNat k.bits))))) w := by
  have : ¬ b < 0 := by omega
  cases k <;> cases k' <;> simp [execOp, hx, hy, eqGuard, binOp, Op.shift, this]
def bitsOp (op : BinOp) (k : IntKind) (x y : Int) : Int :=
  k.wrap ((match op with
    | .and => (BitVec.ofInt k.bits x &&& BitVec.ofInt k.bits y).toNat
    | .or => (BitVec.ofInt k.bits x ||| BitVec.ofInt k.bits y).toNat
    | .xor => (BitVec.ofInt k.bits x ^^^ BitVec.ofInt k.bits y).toNat
    | _ => (BitVec.ofInt k.bits x &&& ~~~BitVec.ofInt k.bits y).toNat : Nat) : Int)
theorem x_and (hx : ρ x = .int k a) (hy : ρ y = .int k b) : (execOp ρ ⟨dd, .binOp .and T1 x y T2, T, pos, af, gg⟩).run P w = .ok (.value (.int k (bitsOp .and k a b))) w := by
  simp [execOp, hx, hy, eqGuard, binOp, Op.intBits, bitsOp]
theorem x_or (hx : ρ x = .int k a) (hy : ρ y = .int k b) : (execOp ρ ⟨dd, .binOp .or T1 x y T2, T, pos, af, gg⟩).run P w = .ok (.value (.int k (bitsOp .or k a b))) w := by
  simp [execOp, hx, hy, eqGuard, binOp, Op.intBits, bitsOp]
theorem x_xor (hx : ρ x = .int k a) (hy : ρ y = .int k b) : (execOp ρ ⟨dd, .binOp .xor T1 x y T2, T, pos, af, gg⟩).run P w = .ok (.value (.int k (bitsOp .xor k a b))) w := by
  simp [execOp, hx, hy, eqGuard, binOp, Op.intBits, bitsOp]
end bin
theorem x_not {x : Operand} {b : Bool} {T1 : TypeId} (hx : ρ x = .bool b) : (execOp ρ ⟨dd, .unOp .not T1 x, T, pos, af, gg⟩).run P w = .ok (.value (.bool (!b))) w := by
  simp [execOp, hx, Op.unary]
theorem x_neg {x : Operand} {k : IntKind} {a : Int} {T1 : TypeId} (hx : ρ x = .int k a) : (execOp ρ ⟨dd, .unOp .neg T1 x, T, pos, af, gg⟩).run P w = .ok (.value (.int k (k.wrap (0 - a)))) w := by
  simp [execOp, hx, Op.unary, Op.intArith]
/-- The kind of integers of a type. -/
def IntT (P : Program) (t : TypeId) (k : IntKind) : Prop := P.underlying t = some (.int k)
theorem x_conv {x : Operand} {k k' : IntKind} {a : Int} {T1 T2 : TypeId} (hu1 : IntT P T1 k) (hu : IntT P T2 k') (hx : ρ x = .int k a) :
    (execOp ρ ⟨dd, .convert T1 T2 x, T, pos, af, gg⟩).run P w = .ok (.value (.int k' (k'.wrap a))) w := by
  simp [execOp, hx, convert, run_underlying hu1, run_underlying hu, Conv.intToInt]
theorem xE {x : Operand} {vs : Array Value} {i : Nat} {v : Value} (hx : ρ x = .tuple vs) (hv : vs[i]? = some v) :
    (execOp ρ ⟨dd, .extract x i, T, pos, af, gg⟩).run P w = .ok (.value v) w := by
  simp [execOp, hx, Instr.extract, hv]
theorem x_func {fn : Fn} {first cap : Array Operand} {vf vc : Array Value} (hf : first.map ρ = vf) (hc : cap.map ρ = vc) :
    (execOp ρ ⟨dd, .makeFunc fn first cap, T, pos, af, gg⟩).run P w = .ok (.value (.func fn vf vc)) w := by
  subst hf; subst hc; simp [execOp, Instr.makeFunc]
theorem x_nilCheck {x : Operand} {a : Addr} (hx : ρ x = .pointer (some a)) : (execOp ρ ⟨dd, .nilCheck x, T, pos, af, gg⟩).run P w = .ok (.value (.pointer (some a))) w := by
  simp [execOp, hx]
section max
variable {x y : Operand} {k : IntKind} {a b : Int} {ts : Array TypeId}
theorem x_max2 (hx : ρ x = .int k a) (hy : ρ y = .int k b) : (execOp ρ ⟨dd, .call ⟨.builtin .max, #[x, y], ts⟩, T, pos, af, gg⟩).run P w = .ok (.value (.int k (max a b))) w := by
  have : (if a < b then b else a) = max a b := by omega
  simp [execOp, resolve, hx, hy, invoke, builtin, Builtin.max_, Builtin.max2, this]
theorem x_min2 (hx : ρ x = .int k a) (hy : ρ y = .int k b) : (execOp ρ ⟨dd, .call ⟨.builtin .min, #[x, y], ts⟩, T, pos, af, gg⟩).run P w = .ok (.value (.int k (min a b))) w := by
  have : (if b < a then b else a) = min a b := by omega
  simp [execOp, resolve, hx, hy, invoke, builtin, Builtin.min_, Builtin.min2, this]
theorem x_max3 {z : Operand} {c : Int} (hx : ρ x = .int k a) (hy : ρ y = .int k b) (hz : ρ z = .int k c) :
    (execOp ρ ⟨dd, .call ⟨.builtin .max, #[x, y, z], ts⟩, T, pos, af, gg⟩).run P w = .ok (.value (.int k (max (max a b) c))) w := by
  have h1 : (if a < b then b else a) = max a b := by omega
  have h2 : (if max a b < c then c else max a b) = max (max a b) c := by omega
  simp [execOp, resolve, hx, hy, hz, invoke, builtin, Builtin.max_, Builtin.max2, h1, h2]
theorem x_min3 {z : Operand} {c : Int} (hx : ρ x = .int k a) (hy : ρ y = .int k b) (hz : ρ z = .int k c) :
    (execOp ρ ⟨dd, .call ⟨.builtin .min, #[x, y, z], ts⟩, T, pos, af, gg⟩).run P w = .ok (.value (.int k (min (min a b) c))) w := by
  have h1 : (if b < a then b else a) = min a b := by omega
  have h2 : (if c < min a b then c else min a b) = min (min a b) c := by omega
  simp [execOp, resolve, hx, hy, hz, invoke, builtin, Builtin.min_, Builtin.min2, h1, h2]
end max
def SliceT (P : Program) (t e : TypeId) : Prop := P.underlying t = some (.slice e)
theorem x_len {x : Operand} {oa : Option Addr} {m c : Nat} {t e : TypeId} (hu : SliceT P t e) (hx : ρ x = .slice oa m c) :
    (execOp ρ ⟨dd, .call ⟨.builtin .len, #[x], #[t]⟩, T, pos, af, gg⟩).run P w = .ok (.value (.int .i64 m)) w := by
  simp [execOp, resolve, hx, invoke, builtin, Builtin.len_, run_underlying hu, goInt]
theorem x_cap {x : Operand} {oa : Option Addr} {m c : Nat} {t e : TypeId} (hu : SliceT P t e) (hx : ρ x = .slice oa m c) :
    (execOp ρ ⟨dd, .call ⟨.builtin .cap, #[x], #[t]⟩, T, pos, af, gg⟩).run P w = .ok (.value (.int .i64 c)) w := by
  simp [execOp, resolve, hx, invoke, builtin, Builtin.cap_, run_underlying hu, goInt]
/-- A type's cells: how many, and what they hold at first; whether a value is an aggregate. -/
structure TyC (P : Program) (t : TypeId) (agg : Bool) (zero : List Value) : Prop where
  info : (P.info? t).map (fun i => (i.size, i.zero)) = some (zero.length, some (bif agg then .agg zero.toArray else zero.headD undef))
  isA : (match P.underlying t with | some (.struct _) | some (.array _ _) => true | _ => false) = agg
  one : agg = false → zero.length = 1
  und : (P.underlying t).isSome = true
theorem TyC.run_sizeOf {t : TypeId} {agg : Bool} {zero : List Value} (h : TyC P t agg zero) (w : World) : (sizeOf t).run P w = .ok zero.length w := by
  obtain ⟨i, hi, he⟩ := Option.map_eq_some_iff.1 h.info
  simp only [Prod.mk.injEq] at he
  simp [sizeOf, run_typeInfo w hi, he.1]
theorem TyC.run_zero {t : TypeId} {agg : Bool} {zero : List Value} (h : TyC P t agg zero) (w : World) : (zeroValue t).run P w = .ok (bif agg then .agg zero.toArray else zero.headD undef) w := by
  obtain ⟨i, hi, he⟩ := Option.map_eq_some_iff.1 h.info
  simp only [Prod.mk.injEq] at he
  simp [zeroValue, run_typeInfo w hi, he.2]
theorem TyC.run_isAgg {t : TypeId} {agg : Bool} {zero : List Value} (h : TyC P t agg zero) (w : World) : (isAgg t).run P w = .ok agg w := by
  have h1 := h.isA
  obtain ⟨d, hd⟩ := Option.isSome_iff_exists.1 h.und
  rw [hd] at h1
  subst h1
  simp only [isAgg, Sem.run_bind, run_underlying hd, Result.andThen_ok]
  cases d <;> rfl
end ops
end Go.HL
