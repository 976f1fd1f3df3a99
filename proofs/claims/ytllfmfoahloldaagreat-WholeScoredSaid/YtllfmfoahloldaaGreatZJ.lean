/- The walks of some functions, printed by a program of ours (gox). -/
import Derived.Test.YtllfmfoahloldaaGreatZC
set_option linter.unusedVariables false
set_option linter.unusedSimpArgs false
set_option maxRecDepth 100000
set_option maxHeartbeats 400000
namespace Go.HL.Tz
open Go.HL
attribute [local irreducible] OW CW CV
theorem fl56_0 : FldT P 56 0 0 := ⟨by kernel_rfl⟩
theorem fl56_1 : FldT P 56 1 1 := ⟨by kernel_rfl⟩
theorem en26 : Proofs.Enters P 26 := Proofs.enters_of Proofs.Tryz.func26 (by kernel_rfl) rfl
theorem fl56_2 : FldT P 56 2 2 := ⟨by kernel_rfl⟩
theorem fl56_3 : FldT P 56 3 3 := ⟨by kernel_rfl⟩
theorem fl56_4 : FldT P 56 4 4 := ⟨by kernel_rfl⟩
theorem ty54 : TyC P 54 false [.slice none 0 0] := ⟨by kernel_rfl, by kernel_rfl, (fun _ => rfl), by kernel_rfl⟩
theorem sl54 : SliceT P 54 59 := (by kernel_rfl : P.underlying 54 = some (.slice 59))
theorem ty59 : TyC P 59 true [.slice none 0 0, .slice none 0 0] := ⟨by kernel_rfl, by kernel_rfl, (fun h => by cases h), by kernel_rfl⟩
theorem fl59_1 : FldT P 59 1 1 := ⟨by kernel_rfl⟩
theorem fl59_0 : FldT P 59 0 0 := ⟨by kernel_rfl⟩
theorem ty57 : TyC P 57 false [.slice none 0 0] := ⟨by kernel_rfl, by kernel_rfl, (fun _ => rfl), by kernel_rfl⟩
theorem sl57 : SliceT P 57 24 := (by kernel_rfl : P.underlying 57 = some (.slice 24))
theorem fl56_5 : FldT P 56 5 5 := ⟨by kernel_rfl⟩
theorem fl56_6 : FldT P 56 6 6 := ⟨by kernel_rfl⟩
theorem sl86 : SliceT P 86 26 := (by kernel_rfl : P.underlying 86 = some (.slice 26))
theorem en74 : Proofs.Enters P 74 := Proofs.enters_of Proofs.Tryz.func74 (by kernel_rfl) rfl
theorem ty56 : TyC P 56 true [iN 0, iN 0, iN 0, iN 0, .slice none 0 0, iN 0, iN 0] := ⟨by kernel_rfl, by kernel_rfl, (fun h => by cases h), by kernel_rfl⟩
theorem en50 : Proofs.Enters P 50 := Proofs.enters_of Proofs.Tryz.func50 (by kernel_rfl) rfl
theorem en45 : Proofs.Enters P 45 := Proofs.enters_of Proofs.Tryz.func45 (by kernel_rfl) rfl
theorem ar99 : ArrT P 99 2 3 := (by kernel_rfl : P.underlying 99 = some (.array 2 3))
def rl24 (I : Im) (x : List Int) (vs : List Value) : Prop := ∃ (a0 : Option Addr) (c0 : Nat), vs = [.slice a0 x.length c0] ∧ Rs I 1 a0 x.length c0 (x.flatMap e64)
theorem rl24.len {I : Im} : ∀ x vs, rl24 I x vs → vs.length = 1 := by rintro x vs ⟨a0, c0, rfl, h0⟩; rfl
theorem rl24.one {I : Im} : ∀ x vs, rl24 I x vs → vs.all Value.oneCell' = true := by rintro x vs ⟨a0, c0, rfl, h0⟩; rfl
theorem rl24.mono {I J : Im} (hle : Im.le I J) : ∀ x vs, rl24 I x vs → rl24 J x vs := by rintro x vs ⟨a0, c0, rfl, h0⟩; exact ⟨a0, c0, rfl, h0.mono hle⟩
def NN24 (I : Im) (xs : List (List Int)) (cs : List Value) : Prop := NL (rl24 I) xs cs
theorem NN24.mono {I J : Im} {xs : List (List Int)} {cs : List Value} (h : NN24 I xs cs) (hle : Im.le I J) : NN24 J xs cs := NL.mono (rl24.mono hle) h
def SN24 (I : Im) (a : Option Addr) (n c : Nat) (xs : List (List Int)) : Prop := ∃ cs, Rs I 1 a n c cs ∧ NN24 I xs cs
theorem SN24.mono {I J : Im} {a : Option Addr} {n c : Nat} {xs : List (List Int)} (h : SN24 I a n c xs) (hle : Im.le I J) : SN24 J a n c xs := by obtain ⟨cs, h1, h2⟩ := h; exact ⟨cs, h1.mono hle, h2.mono hle⟩
theorem SN24.some {I : Im} {a : Option Addr} {n c : Nat} {xs : List (List Int)} (h : SN24 I a n c xs) (hn : 0 < n) : a.isSome = true := by obtain ⟨cs, h1, _⟩ := h; exact h1.some hn
theorem SN24.nil (I : Im) (a : Option Addr) : SN24 I a 0 0 [] := ⟨[], Rs.nil _ _ _, NL.nil⟩
def rl59 (I : Im) (x : List (List Int) × List Int) (vs : List Value) : Prop := ∃ (a0 : Option Addr) (c0 : Nat) (a1 : Option Addr) (c1 : Nat), vs = [.slice a0 x.1.length c0, .slice a1 x.2.length c1] ∧ SN24 I a0 x.1.length c0 x.1 ∧ Rs I 1 a1 x.2.length c1 (x.2.flatMap e64)
theorem rl59.len {I : Im} : ∀ x vs, rl59 I x vs → vs.length = 2 := by rintro x vs ⟨a0, c0, a1, c1, rfl, h0, h1⟩; rfl
theorem rl59.one {I : Im} : ∀ x vs, rl59 I x vs → vs.all Value.oneCell' = true := by rintro x vs ⟨a0, c0, a1, c1, rfl, h0, h1⟩; rfl
theorem rl59.mono {I J : Im} (hle : Im.le I J) : ∀ x vs, rl59 I x vs → rl59 J x vs := by rintro x vs ⟨a0, c0, a1, c1, rfl, h0, h1⟩; exact ⟨a0, c0, a1, c1, rfl, h0.mono hle, h1.mono hle⟩
def NN59 (I : Im) (xs : List (List (List Int) × List Int)) (cs : List Value) : Prop := NL (rl59 I) xs cs
theorem NN59.mono {I J : Im} {xs : List (List (List Int) × List Int)} {cs : List Value} (h : NN59 I xs cs) (hle : Im.le I J) : NN59 J xs cs := NL.mono (rl59.mono hle) h
def SN59 (I : Im) (a : Option Addr) (n c : Nat) (xs : List (List (List Int) × List Int)) : Prop := ∃ cs, Rs I 2 a n c cs ∧ NN59 I xs cs
theorem SN59.mono {I J : Im} {a : Option Addr} {n c : Nat} {xs : List (List (List Int) × List Int)} (h : SN59 I a n c xs) (hle : Im.le I J) : SN59 J a n c xs := by obtain ⟨cs, h1, h2⟩ := h; exact ⟨cs, h1.mono hle, h2.mono hle⟩
theorem SN59.some {I : Im} {a : Option Addr} {n c : Nat} {xs : List (List (List Int) × List Int)} (h : SN59 I a n c xs) (hn : 0 < n) : a.isSome = true := by obtain ⟨cs, h1, _⟩ := h; exact h1.some hn
theorem SN59.nil (I : Im) (a : Option Addr) : SN59 I a 0 0 [] := ⟨[], Rs.nil _ _ _, NL.nil⟩
def rl26 (I : Im) (x : Int × Int × List Int) (vs : List Value) : Prop := ∃ (a2 : Option Addr) (c2 : Nat), vs = [iN x.1, iN x.2.1, .slice a2 x.2.2.length c2] ∧ Rs I 1 a2 x.2.2.length c2 (x.2.2.flatMap e64)
theorem rl26.len {I : Im} : ∀ x vs, rl26 I x vs → vs.length = 3 := by rintro x vs ⟨a2, c2, rfl, h2⟩; rfl
theorem rl26.one {I : Im} : ∀ x vs, rl26 I x vs → vs.all Value.oneCell' = true := by rintro x vs ⟨a2, c2, rfl, h2⟩; rfl
theorem rl26.mono {I J : Im} (hle : Im.le I J) : ∀ x vs, rl26 I x vs → rl26 J x vs := by rintro x vs ⟨a2, c2, rfl, h2⟩; exact ⟨a2, c2, rfl, h2.mono hle⟩
def NN26 (I : Im) (xs : List (Int × Int × List Int)) (cs : List Value) : Prop := NL (rl26 I) xs cs
theorem NN26.mono {I J : Im} {xs : List (Int × Int × List Int)} {cs : List Value} (h : NN26 I xs cs) (hle : Im.le I J) : NN26 J xs cs := NL.mono (rl26.mono hle) h
def SN26 (I : Im) (a : Option Addr) (n c : Nat) (xs : List (Int × Int × List Int)) : Prop := ∃ cs, Rs I 3 a n c cs ∧ NN26 I xs cs
theorem SN26.mono {I J : Im} {a : Option Addr} {n c : Nat} {xs : List (Int × Int × List Int)} (h : SN26 I a n c xs) (hle : Im.le I J) : SN26 J a n c xs := by obtain ⟨cs, h1, h2⟩ := h; exact ⟨cs, h1.mono hle, h2.mono hle⟩
theorem SN26.some {I : Im} {a : Option Addr} {n c : Nat} {xs : List (Int × Int × List Int)} (h : SN26 I a n c xs) (hn : 0 < n) : a.isSome = true := by obtain ⟨cs, h1, _⟩ := h; exact h1.some hn
theorem SN26.nil (I : Im) (a : Option Addr) : SN26 I a 0 0 [] := ⟨[], Rs.nil _ _ _, NL.nil⟩
def f26_l0 (C : Int) (B : Int) (e : List Int) : Nat → Int → Option (Sum Unit Bool)
  | 0, _ => none
  | k + 1, a => (if a < (e.length : Int) then (if 0 ≤ a ∧ a < (e.length : Int) then ((if (at' e a) < C then some true else some (decide (B < (at' e a)))).bind fun O => (if O = true then some (Sum.inr false) else (f26_l0 C B e k (w64 (a + 1))))) else none) else some (Sum.inl ()))
def f26_m (C : Int) (B : Int) (e : List Int) : Option Bool :=
  (lb (S := Unit) (f26_l0 C B e FUEL 0) id (fun U => some true))
theorem f26_ok (C : Int) (B : Int) (e : List Int) {r : Bool} (hm : f26_m C B e = some r) {Q : Option Addr} {N : Nat} {I : Im} {F : List HP} {w : World} (hs : Sat I (F) w) (M : Rs I 1 Q e.length N (e.flatMap e64)) :
    CV P 26 (cL0 C B Q e.length N) w fun v w' => ∃ (J : Im), Im.le I J ∧ Sat J (F) w' ∧ v = .bool r := by
 unfold f26_m at hm
 refine cv_of (n := 24) Proofs.Tryz.func26 rfl rfl (nLe rfl) <| cQ <| cR <| asB rfl <| oN <| sK ?_
 obtain ⟨W, Y, T⟩ := lb_some hm
 replace hm := Y; clear Y
 refine cJ (fun f ds w => ∃ (U : Unit) (R : Im), ds = [] ∧ Im.le I R ∧ W = Sum.inl U ∧ Sat R (F) w ∧ f 6 = .bool false) ?_ ?_
 · refine cQ <| cR <| mS rfl <| oV (x_len sl24 rfl) rfl <| mI rfl <| oN <| sK <| cw_block ?_
   refine cL (S := fun k f ds w => ∃ (a : Int), ∃ (u : Im), ds = [] ∧ Im.le I u ∧ f26_l0 C B e k a = some W ∧ Sat u (F) w ∧ f 0 = iN C ∧ f 1 = iN B ∧ f 6 = .bool false ∧ f 9 = .slice Q e.length N ∧ f 10 = iN (e.length : Int) ∧ f 11 = iN a) ?_ (k := FUEL) ⟨0, I, rfl, iR, hm, hs, rfl, rfl, rfl, rfl, rfl, rfl⟩
   clear hm hs
   rintro k f ds w ⟨a, u, rfl, s, hm, hs, q, o, m, l, h, d⟩
   rcases k with _ | k
   · unfold f26_l0 at hm; cases hm
   unfold f26_l0 at hm
   refine cQ <| cR <| oV (x_lss d h) rfl <| oN <| sQR ?_
   by_cases y : a < (e.length : Int)
   · rw [if_pos y] at hm
     refine cIt rfl (dT y) <| cw_skip <| sQR <| cw_block <| cQ <| cR ?_
     have t := (iS hm).1
     replace hm := (iS hm).2
     replace M := M.mono s
     refine oI (i := a) sl24 ty3 l d t.1 t.2 (Rs.some M (by have := t; omega)) <| oLR (p := a.toNat * 1) (vs := [iN (at' e a)]) (v := iN (at' e a)) hs M rfl ty3 (flat_at (enc := e64) (sz := 1) (fun _ => rfl) e a t.1 t.2 0 1 (by decide)) rfl rfl <| asI rfl <| oN <| sQR <| cR <| mI rfl <| mI q <| oV (x_lss rfl rfl) rfl <| mB rfl ?_
     obtain ⟨O, j, hm⟩ := bS hm
     refine oJN 4 (fun f ds w => ∃ (L : Im), ds = [] ∧ Im.le u L ∧ Sat L (F) w ∧ f 22 = .bool O ∧ f 0 = iN C ∧ f 1 = iN B ∧ f 6 = .bool false ∧ f 9 = .slice Q e.length N ∧ f 10 = iN (e.length : Int) ∧ f 11 = iN a) ?_ ?_
     · by_cases c : (at' e a) < C
       · rw [if_pos c] at j
         refine oO (b := true) (yO rfl rfl (dT c)) rfl <| oO (b := true) (yO rfl rfl (dT c)) rfl <| oO (b := true) (yO rfl rfl (dT c)) rfl <| oV (xPt (v := .bool true) ((rfl : ev _ _ _ = _).trans (congrArg Value.bool (dT c))) rfl) rfl <| oN ?_
         obtain rfl := oJ j
         exact ⟨u, rfl, iR, hs, rfl, q, o, m, l, h, d⟩
       rw [if_neg c] at j
       refine oG (yO rfl rfl (dF c)) <| mI rfl <| oG (yO rfl rfl (dF c)) <| mI o <| oG (yO rfl rfl (dF c)) <| oV (x_gtr rfl rfl) rfl <| oV (xPf (v := .bool (decide (B < (at' e a)))) ((rfl : ev _ _ _ = _).trans (congrArg Value.bool (dF c))) rfl) rfl <| oN ?_
       obtain rfl := oJ j
       exact ⟨u, rfl, iR, hs, rfl, q, o, m, l, h, d⟩
     clear j hs
     rintro f ds w ⟨L, rfl, K, hs, htbb44, H, G, E, D, A, z⟩
     refine oN <| sK ?_
     by_cases x : O = true
     · rw [if_pos x] at hm
       refine cIt htbb44 x <| cQ <| cR <| asB rfl <| oN <| sK <| cw_ret <| blockK_r <| seqK_r <| loopK_r <| blockK_r <| joinK_r ?_
       refine rK (rs := [.tmp 6]) (vs := [.bool false]) (.inr rfl) rfl ⟨rfl, trivial⟩ ?_
       replace hm := lret hm T
       obtain rfl := oJ hm
       exact ⟨L, (s.trans K), hs, rfl⟩
     rw [if_neg x] at hm
     refine cIf htbb44 (bF x) <| cw_skip <| blockK_n <| sK <| cR <| oV (x_add z rfl) rfl <| mI rfl <| oN ?_
     exact lN ⟨k, Nat.lt_succ_self k, w64 (a + 1), L, rfl, (s.trans K), hm, hs, H, G, E, D, A, rfl⟩
   rw [if_neg y] at hm
   refine cIf rfl (dF y) <| cw_exit <| seqK_x <| loopK_x <| blockK_hit ?_
   obtain rfl := oJ hm
   refine jN ⟨(), u, rfl, s, rfl, hs, m⟩
 clear hm hs
 rintro f ds w ⟨U, R, rfl, V, rfl, hs, X⟩
 replace hm := lexit rfl T
 refine cQ <| cR <| asB rfl <| oN <| sK <| cw_ret <| rK (rs := [.tmp 6]) (vs := [.bool true]) (.inr rfl) rfl ⟨rfl, trivial⟩ ?_
 obtain rfl := oJ hm
 exact ⟨R, V, hs, rfl⟩
def f50_l1 (c : List (List (List Int) × List Int)) (s : Int) (a : Int) : Nat → Int → Option (Sum Unit Int)
  | 0, _ => none
  | k + 1, d => (if d < (((at' c a).1).length : Int) then (if 0 ≤ d ∧ d < (((at' c a).1).length : Int) then ((if ¬ (((at' ((at' c a).1) d).length : Int) = s) then some true else ((f26_m (-1000) 1000 (at' ((at' c a).1) d)).bind fun a8 => some (!a8))).bind fun bo => (if bo = true then some (Sum.inr 80) else (f50_l1 c s a k (w64 (d + 1))))) else none) else some (Sum.inl ()))
def f50_l0 (c : List (List (List Int) × List Int)) : Nat → Int → Int → Option (Sum Int Int)
  | 0, _, _ => none
  | k + 1, s, a => (if a < (c.length : Int) then (lb (S := Int) (if 0 ≤ a ∧ a < (c.length : Int) then ((f26_m 1 8 [(((at' c a).2).length : Int)]).bind fun ba => ((if (!ba) = true then some true else some (decide (¬ ((((at' c a).1).length : Int) = (((at' c a).2).length : Int))))).bind fun bq => ((if bq = true then some true else ((f26_m (-1000000) 1000000 ((at' c a).2)).bind fun a9 => some (!a9))).bind fun bp => (if bp = true then some (Sum.inr 80) else (lb (S := Unit) (f50_l1 c s a FUEL 0) Sum.inr (fun bT => some (Sum.inl (((at' c a).2).length : Int)))))))) else none) Sum.inr (fun aq => (f50_l0 c k aq (w64 (a + 1))))) else some (Sum.inl s))
def f50_m (y : Int) (x : Int) (q : Int) (m : Int) (c : List (List (List Int) × List Int)) (u : Int) (t : Int) : Option Int :=
  ((f26_m 1 16 [y, x]).bind fun r7 => ((if (!r7) = true then some true else ((f26_m 1 4 [q, m]).bind fun cy => some (!cy))).bind fun cI => ((if cI = true then some true else (if q ≠ 0 then some (decide (¬ ((Int.tmod y q) = 0))) else none)).bind fun cH => ((if cH = true then some true else (if m ≠ 0 then some (decide (¬ ((Int.tmod x m) = 0))) else none)).bind fun cG => ((if cG = true then some true else ((f26_m 1 3 [(c.length : Int)]).bind fun cx => some (!cx))).bind fun cF => (if cF = true then some 80 else (lb (S := Int) (f50_l0 c FUEL (w64 (q * m)) 0) id (fun a2 => ((if ¬ (a2 = 1) then some true else some (decide (t ≤ u))).bind fun bn => ((if bn = true then some true else ((f26_m (-1152921504606846976) 1152921504606846976 [u, t]).bind fun a7 => some (!a7))).bind fun bm => (if bm = true then some 80 else some 0)))))))))))
theorem f50_ok (y : Int) (x : Int) (q : Int) (m : Int) (c : List (List (List Int) × List Int)) (u : Int) (t : Int) {r : Int} (hm : f50_m y x q m c u t = some r) {h : Option Addr} {e : Nat} {I : Im} {F : List HP} {w : World} (hs : Sat I (F) w) (bb : SN59 I h c.length e c) :
    CV P 50 [.agg (cL4 y x q m h c.length e u t).toArray] w fun v w' => ∃ (J : Im), Im.le I J ∧ Sat J (F) w' ∧ v = iN r := by
 unfold f50_m at hm
 refine cv_of (n := 120) Proofs.Tryz.func50 rfl rfl (nLe rfl) <| cQ <| cR <| oB (v := .agg (cL4 y x q m h c.length e u t).toArray) (cs := (cL4 y x q m h c.length e u t)) hs rfl rfl ?_
 clear hs; intro R w hs
 refine asI rfl <| oN <| sQR <| cQ <| cR <| oF (b := R) (o := 0) fl56_0 rfl <| ld1 (k := 0) hs rfl rfl ty3 rfl <| oF (b := R) (o := 0) fl56_1 rfl <| ld1 (k := 0) hs rfl rfl ty3 rfl <| ow_buildSlice (vp := [(0, iN y), (1, iN x)]) (cs := [iN y, iN x]) hs sl24 ty3 rfl ⟨rfl, rfl, rfl, rfl, trivial⟩ (by decide) rfl (by decide) ?_
 clear hs; intro a5 J3 w a4 hs cV
 replace cV : Rs J3 1 a5 [y, x].length 2 ([y, x].flatMap e64) := cV
 obtain ⟨r7, c8, hm⟩ := bS hm
 refine oC (fi := []) (vs := (cL0 1 16 a5 ([y, x].length) 2)) (ca := []) rfl ⟨rfl, rfl, rfl, trivial⟩ en26 (f26_ok _ _ _ c8 hs cV) ?_
 clear hs; rintro _ w ⟨J9, ax, hs, rfl⟩
 refine oV (x_not (b := r7) rfl) rfl <| mB rfl ?_
 obtain ⟨cI, af, hm⟩ := bS hm
 refine oJN 8 (fun f ds w => ∃ (ci : Im), ds = [] ∧ Im.le J9 ci ∧ Sat ci (blk R 56 (cL4 y x q m h c.length e u t) :: F) w ∧ f 23 = .bool cI ∧ f 1 = pQ R 0 ∧ f 2 = iN 0) ?_ ?_
 · by_cases C : (!r7) = true
   · rw [if_pos C] at af
     refine oO (b := true) (yO rfl rfl C) rfl <| oO (b := true) (yO rfl rfl C) rfl <| oO (b := true) (yO rfl rfl C) rfl <| oO (b := true) (yO rfl rfl C) rfl <| oO (b := true) (yO rfl rfl C) rfl <| oO (b := true) (yO rfl rfl C) rfl <| oO (b := true) (yO rfl rfl C) rfl <| oV (xPt (v := .bool true) ((rfl : ev _ _ _ = _).trans (congrArg Value.bool C)) rfl) rfl <| oN ?_
     obtain rfl := oJ af
     exact ⟨J9, rfl, iR, hs, rfl, rfl, rfl⟩
   rw [if_neg C] at af
   refine oG (yO rfl rfl (bF C)) <| oF (b := R) (o := 0) fl56_2 rfl <| oG (yO rfl rfl (bF C)) <| ld1 (k := 0) hs rfl rfl ty3 rfl <| oG (yO rfl rfl (bF C)) <| oF (b := R) (o := 0) fl56_3 rfl <| oG (yO rfl rfl (bF C)) <| ld1 (k := 0) hs rfl rfl ty3 rfl <| oG (yO rfl rfl (bF C)) <| ow_buildSlice (vp := [(0, iN q), (1, iN m)]) (cs := [iN q, iN m]) hs sl24 ty3 rfl ⟨rfl, rfl, rfl, rfl, trivial⟩ (by decide) rfl (by decide) ?_
   clear hs; intro c6 dc w cU hs ct
   replace ct : Rs dc 1 c6 [q, m].length 2 ([q, m].flatMap e64) := ct
   refine oG (yO rfl rfl (bF C)) ?_
   obtain ⟨cy, c2, af⟩ := bS af
   refine oC (fi := []) (vs := (cL0 1 4 c6 ([q, m].length) 2)) (ca := []) rfl ⟨rfl, rfl, rfl, trivial⟩ en26 (f26_ok _ _ _ c2 hs ct) ?_
   clear hs; rintro _ w ⟨db, cT, hs, rfl⟩
   refine oG (yO rfl rfl (bF C)) <| oV (x_not (b := cy) rfl) rfl <| oV (xPf (v := .bool (!cy)) ((rfl : ev _ _ _ = _).trans (congrArg Value.bool (bF C))) rfl) rfl <| oN ?_
   obtain rfl := oJ af
   exact ⟨db, rfl, (cU.trans cT), hs, rfl, rfl, rfl⟩
 clear af hs
 rintro f ds w ⟨ci, rfl, aw, hs, htbb12, al, bM⟩
 refine mB htbb12 ?_
 obtain ⟨cH, V, hm⟩ := bS hm
 refine oJN 7 (fun f ds w => ∃ (ch : Im), ds = [] ∧ Im.le ci ch ∧ Sat ch (blk R 56 (cL4 y x q m h c.length e u t) :: F) w ∧ f 31 = .bool cH ∧ f 1 = pQ R 0 ∧ f 2 = iN 0) ?_ ?_
 · by_cases H : cI = true
   · rw [if_pos H] at V
     refine oO (b := true) (yO rfl rfl H) rfl <| oO (b := true) (yO rfl rfl H) rfl <| oO (b := true) (yO rfl rfl H) rfl <| oO (b := true) (yO rfl rfl H) rfl <| oO (b := true) (yO rfl rfl H) rfl <| oO (b := true) (yO rfl rfl H) rfl <| oV (xPt (v := .bool true) ((rfl : ev _ _ _ = _).trans (congrArg Value.bool H)) rfl) rfl <| oN ?_
     obtain rfl := oJ V
     exact ⟨ci, rfl, iR, hs, rfl, al, bM⟩
   rw [if_neg H] at V
   refine oG (yO rfl rfl (bF H)) <| oF (b := R) (o := 0) fl56_0 al <| oG (yO rfl rfl (bF H)) <| ld1 (k := 0) hs rfl rfl ty3 rfl <| oG (yO rfl rfl (bF H)) <| oF (b := R) (o := 0) fl56_2 al <| oG (yO rfl rfl (bF H)) <| ld1 (k := 0) hs rfl rfl ty3 rfl <| oG (yO rfl rfl (bF H)) ?_
   have c4 := (iS V).1
   replace V := (iS V).2
   refine oV (x_rem rfl rfl c4) rfl <| oG (yO rfl rfl (bF H)) <| oV (x_neqD rfl rfl) rfl <| oV (xPf (v := .bool (decide (¬ ((Int.tmod y q) = 0)))) ((rfl : ev _ _ _ = _).trans (congrArg Value.bool (bF H))) rfl) rfl <| oN ?_
   obtain rfl := oJ V
   exact ⟨ci, rfl, iR, hs, rfl, al, bM⟩
 clear V hs
 rintro f ds w ⟨ch, rfl, av, hs, htbb25, ak, bL⟩
 refine mB htbb25 ?_
 obtain ⟨cG, U, hm⟩ := bS hm
 refine oJN 7 (fun f ds w => ∃ (cw : Im), ds = [] ∧ Im.le ch cw ∧ Sat cw (blk R 56 (cL4 y x q m h c.length e u t) :: F) w ∧ f 39 = .bool cG ∧ f 1 = pQ R 0 ∧ f 2 = iN 0) ?_ ?_
 · by_cases G : cH = true
   · rw [if_pos G] at U
     refine oO (b := true) (yO rfl rfl G) rfl <| oO (b := true) (yO rfl rfl G) rfl <| oO (b := true) (yO rfl rfl G) rfl <| oO (b := true) (yO rfl rfl G) rfl <| oO (b := true) (yO rfl rfl G) rfl <| oO (b := true) (yO rfl rfl G) rfl <| oV (xPt (v := .bool true) ((rfl : ev _ _ _ = _).trans (congrArg Value.bool G)) rfl) rfl <| oN ?_
     obtain rfl := oJ U
     exact ⟨ch, rfl, iR, hs, rfl, ak, bL⟩
   rw [if_neg G] at U
   refine oG (yO rfl rfl (bF G)) <| oF (b := R) (o := 0) fl56_1 ak <| oG (yO rfl rfl (bF G)) <| ld1 (k := 0) hs rfl rfl ty3 rfl <| oG (yO rfl rfl (bF G)) <| oF (b := R) (o := 0) fl56_3 ak <| oG (yO rfl rfl (bF G)) <| ld1 (k := 0) hs rfl rfl ty3 rfl <| oG (yO rfl rfl (bF G)) ?_
   have c3 := (iS U).1
   replace U := (iS U).2
   refine oV (x_rem rfl rfl c3) rfl <| oG (yO rfl rfl (bF G)) <| oV (x_neqD rfl rfl) rfl <| oV (xPf (v := .bool (decide (¬ ((Int.tmod x m) = 0)))) ((rfl : ev _ _ _ = _).trans (congrArg Value.bool (bF G))) rfl) rfl <| oN ?_
   obtain rfl := oJ U
   exact ⟨ch, rfl, iR, hs, rfl, ak, bL⟩
 clear U hs
 rintro f ds w ⟨cw, rfl, au, hs, htbb30, aU, bK⟩
 refine mB htbb30 ?_
 obtain ⟨cF, ae, hm⟩ := bS hm
 refine oJN 7 (fun f ds w => ∃ (cd : Im), ds = [] ∧ Im.le cw cd ∧ Sat cd (blk R 56 (cL4 y x q m h c.length e u t) :: F) w ∧ f 47 = .bool cF ∧ f 1 = pQ R 0 ∧ f 2 = iN 0) ?_ ?_
 · by_cases E : cG = true
   · rw [if_pos E] at ae
     refine oO (b := true) (yO rfl rfl E) rfl <| oO (b := true) (yO rfl rfl E) rfl <| oO (b := true) (yO rfl rfl E) rfl <| oO (b := true) (yO rfl rfl E) rfl <| oO (b := true) (yO rfl rfl E) rfl <| oO (b := true) (yO rfl rfl E) rfl <| oV (xPt (v := .bool true) ((rfl : ev _ _ _ = _).trans (congrArg Value.bool E)) rfl) rfl <| oN ?_
     obtain rfl := oJ ae
     exact ⟨cw, rfl, iR, hs, rfl, aU, bK⟩
   rw [if_neg E] at ae
   refine oG (yO rfl rfl (bF E)) <| oF (b := R) (o := 0) fl56_4 aU <| oG (yO rfl rfl (bF E)) <| ld1 (k := 0) hs rfl rfl ty54 rfl <| oG (yO rfl rfl (bF E)) <| oV (x_len sl54 rfl) rfl <| oG (yO rfl rfl (bF E)) <| ow_buildSlice (vp := [(0, iN (c.length : Int))]) (cs := [iN (c.length : Int)]) hs sl24 ty3 rfl ⟨rfl, rfl, trivial⟩ (by decide) rfl (by decide) ?_
   clear hs; intro c5 da w cS hs cr
   replace cr : Rs da 1 c5 [(c.length : Int)].length 1 ([(c.length : Int)].flatMap e64) := cr
   refine oG (yO rfl rfl (bF E)) ?_
   obtain ⟨cx, c1, ae⟩ := bS ae
   refine oC (fi := []) (vs := (cL0 1 3 c5 ([(c.length : Int)].length) 1)) (ca := []) rfl ⟨rfl, rfl, rfl, trivial⟩ en26 (f26_ok _ _ _ c1 hs cr) ?_
   clear hs; rintro _ w ⟨c9, cP, hs, rfl⟩
   refine oG (yO rfl rfl (bF E)) <| oV (x_not (b := cx) rfl) rfl <| oV (xPf (v := .bool (!cx)) ((rfl : ev _ _ _ = _).trans (congrArg Value.bool (bF E))) rfl) rfl <| oN ?_
   obtain rfl := oJ ae
   exact ⟨c9, rfl, (cS.trans cP), hs, rfl, aU, bK⟩
 clear ae hs
 rintro f ds w ⟨cd, rfl, ar, hs, htbb35, aj, ck⟩
 refine oN <| sK ?_
 by_cases cf : cF = true
 · rw [if_pos cf] at hm
   refine cIt htbb35 cf <| cQ <| cR <| asI rfl <| oN <| sK <| cw_ret <| seqK_r <| rK (rs := [.tmp 2]) (vs := [iN 80]) (.inr rfl) rfl ⟨rfl, trivial⟩ ?_
   obtain rfl := oJ hm
   replace hs := hs.erase 0
   exact ⟨cd, (((((a4.trans ax).trans aw).trans av).trans au).trans ar), hs, rfl⟩
 rw [if_neg cf] at hm
 refine cIf htbb35 (bF cf) <| cw_skip <| sQR <| cR <| oF (b := R) (o := 0) fl56_2 aj <| ld1 (k := 0) hs rfl rfl ty3 rfl <| oF (b := R) (o := 0) fl56_3 aj <| ld1 (k := 0) hs rfl rfl ty3 rfl <| oV (x_mul rfl rfl) rfl <| asI rfl <| oN ?_
 refine sK ?_
 obtain ⟨cK, bN, b8⟩ := lb_some hm
 replace hm := bN; clear bN
 refine cJ (fun f ds w => ∃ (a2 : Int) (a6 : Im), ds = [] ∧ Im.le cd a6 ∧ cK = Sum.inl a2 ∧ Sat a6 (blk R 56 (cL4 y x q m h c.length e u t) :: F) w ∧ f 1 = pQ R 0 ∧ f 2 = iN 0 ∧ f 3 = iN a2) ?_ ?_
 · refine cQ <| cR <| oF (b := R) (o := 0) fl56_4 aj <| ld1 (k := 0) hs rfl rfl ty54 rfl <| oV (x_len sl54 rfl) rfl <| mI rfl <| oN <| sK <| cw_block ?_
   refine cL (S := fun k f ds w => ∃ (s : Int) (a : Int), ∃ (a1 : Im), ds = [] ∧ Im.le cd a1 ∧ f50_l0 c k s a = some cK ∧ Sat a1 (blk R 56 (cL4 y x q m h c.length e u t) :: F) w ∧ f 1 = pQ R 0 ∧ f 2 = iN 0 ∧ f 3 = iN s ∧ f 54 = .slice h c.length e ∧ f 55 = iN (c.length : Int) ∧ f 56 = iN a) ?_ (k := FUEL) ⟨w64 (q * m), 0, cd, rfl, iR, hm, hs, aj, ck, rfl, rfl, rfl, rfl⟩
   clear hm hs
   rintro k f ds w ⟨s, a, a1, rfl, ab, hm, hs, bh, bf, bd, aQ, aO, ai⟩
   rcases k with _ | k
   · unfold f50_l0 at hm; cases hm
   unfold f50_l0 at hm
   refine cQ <| cR <| oV (x_lss ai aO) rfl <| oN <| sQR ?_
   by_cases aH : a < (c.length : Int)
   · rw [if_pos aH] at hm
     refine cIt rfl (dT aH) <| cw_skip <| sK ?_
     obtain ⟨cM, bN, bi⟩ := lb_some hm
     replace hm := bN; clear bN
     refine cJ (fun f ds w => ∃ (aq : Int) (bs : Im), ds = [] ∧ Im.le a1 bs ∧ cM = Sum.inl aq ∧ Sat bs (blk R 56 (cL4 y x q m h c.length e u t) :: F) w ∧ f 1 = pQ R 0 ∧ f 2 = iN 0 ∧ f 3 = iN aq ∧ f 54 = .slice h c.length e ∧ f 55 = iN (c.length : Int) ∧ f 56 = iN a) ?_ ?_
     · refine cw_block <| cQ <| cR ?_
       have ap := (iS hm).1
       replace hm := (iS hm).2
       replace bb := bb.mono ((((((a4.trans ax).trans aw).trans av).trans au).trans ar).trans ab)
       refine oI (i := a) sl54 ty59 aQ ai ap.1 ap.2 (SN59.some bb (by have := ap; omega)) ?_
       obtain ⟨csu1565, hru1565, hnu1565⟩ := (id bb)
       obtain ⟨vsu1565, hvu1565, O, N, T, Q, rfl, aI, bl⟩ := NL.at rl59.len hnu1565 ap.1 ap.2
       refine oLR (p := a.toNat * 2) (vs := [.slice O (((at' c a).1).length) N, .slice T (((at' c a).2).length) Q]) (v := .agg #[.slice O (((at' c a).1).length) N, .slice T (((at' c a).2).length) Q]) hs hru1565 rfl ty59 ((cells_part hvu1565 0 2 (by decide)).trans rfl) rfl rfl <| ow_alloc hs ty59 rfl ?_
       clear hs; intro A w hs
       refine oS (k := 0) (vs := [.slice O (((at' c a).1).length) N, .slice T (((at' c a).2).length) Q]) (cs' := [.slice O (((at' c a).1).length) N, .slice T (((at' c a).2).length) Q]) hs rfl rfl rfl ty59 rfl rfl (nLe rfl) rfl rfl ?_
       clear hs; intro w hs
       refine oN <| sQR <| cQ <| cR <| oF (b := A) (o := 0) fl59_1 rfl <| ld1 (k := 0) hs rfl rfl ty24 rfl <| oV (x_len sl24 rfl) rfl <| ow_buildSlice (vp := [(0, iN (((at' c a).2).length : Int))]) (cs := [iN (((at' c a).2).length : Int)]) hs sl24 ty3 rfl ⟨rfl, rfl, trivial⟩ (by decide) rfl (by decide) ?_
       clear hs; intro cv c0 w aa hs bk
       replace bk : Rs c0 1 cv [(((at' c a).2).length : Int)].length 1 ([(((at' c a).2).length : Int)].flatMap e64) := bk
       obtain ⟨ba, cC, hm⟩ := bS hm
       refine oC (fi := []) (vs := (cL0 1 8 cv ([(((at' c a).2).length : Int)].length) 1)) (ca := []) rfl ⟨rfl, rfl, rfl, trivial⟩ en26 (f26_ok _ _ _ cC hs bk) ?_
       clear hs; rintro _ w ⟨cc, Z, hs, rfl⟩
       refine oV (x_not (b := ba) rfl) rfl <| mB rfl ?_
       obtain ⟨bq, X, hm⟩ := bS hm
       refine oJN 8 (fun f ds w => ∃ (a0 : Im), ds = [] ∧ Im.le cc a0 ∧ Sat a0 (blk A 59 [.slice O (((at' c a).1).length) N, .slice T (((at' c a).2).length) Q] :: blk R 56 (cL4 y x q m h c.length e u t) :: F) w ∧ f 74 = .bool bq ∧ f 1 = pQ R 0 ∧ f 2 = iN 0 ∧ f 3 = iN s ∧ f 5 = pQ A 0 ∧ f 54 = .slice h c.length e ∧ f 55 = iN (c.length : Int) ∧ f 56 = iN a) ?_ ?_
       · by_cases l : (!ba) = true
         · rw [if_pos l] at X
           refine oO (b := true) (yO rfl rfl l) rfl <| oO (b := true) (yO rfl rfl l) rfl <| oO (b := true) (yO rfl rfl l) rfl <| oO (b := true) (yO rfl rfl l) rfl <| oO (b := true) (yO rfl rfl l) rfl <| oO (b := true) (yO rfl rfl l) rfl <| oO (b := true) (yO rfl rfl l) rfl <| oV (xPt (v := .bool true) ((rfl : ev _ _ _ = _).trans (congrArg Value.bool l)) rfl) rfl <| oN ?_
           obtain rfl := oJ X
           exact ⟨cc, rfl, iR, hs, rfl, bh, bf, bd, rfl, aQ, aO, ai⟩
         rw [if_neg l] at X
         refine oG (yO rfl rfl (bF l)) <| oF (b := A) (o := 0) fl59_0 rfl <| oG (yO rfl rfl (bF l)) <| ld1 (k := 0) hs rfl rfl ty57 rfl <| oG (yO rfl rfl (bF l)) <| oV (x_len sl57 rfl) rfl <| oG (yO rfl rfl (bF l)) <| oF (b := A) (o := 0) fl59_1 rfl <| oG (yO rfl rfl (bF l)) <| ld1 (k := 0) hs rfl rfl ty24 rfl <| oG (yO rfl rfl (bF l)) <| oV (x_len sl24 rfl) rfl ?_
         refine oG (yO rfl rfl (bF l)) <| oV (x_neqD rfl rfl) rfl <| oV (xPf (v := .bool (decide (¬ ((((at' c a).1).length : Int) = (((at' c a).2).length : Int))))) ((rfl : ev _ _ _ = _).trans (congrArg Value.bool (bF l))) rfl) rfl <| oN ?_
         obtain rfl := oJ X
         exact ⟨cc, rfl, iR, hs, rfl, bh, bf, bd, rfl, aQ, aO, ai⟩
       clear X hs
       rintro f ds w ⟨a0, rfl, Y, hs, htbb1583, aW, aT, aR, ad, aB, aA, az⟩
       refine mB htbb1583 ?_
       obtain ⟨bp, M, hm⟩ := bS hm
       refine oJN 5 (fun f ds w => ∃ (ag : Im), ds = [] ∧ Im.le a0 ag ∧ Sat ag (blk A 59 [.slice O (((at' c a).1).length) N, .slice T (((at' c a).2).length) Q] :: blk R 56 (cL4 y x q m h c.length e u t) :: F) w ∧ f 80 = .bool bp ∧ f 1 = pQ R 0 ∧ f 2 = iN 0 ∧ f 3 = iN s ∧ f 5 = pQ A 0 ∧ f 54 = .slice h c.length e ∧ f 55 = iN (c.length : Int) ∧ f 56 = iN a) ?_ ?_
       · by_cases B : bq = true
         · rw [if_pos B] at M
           refine oO (b := true) (yO rfl rfl B) rfl <| oO (b := true) (yO rfl rfl B) rfl <| oO (b := true) (yO rfl rfl B) rfl <| oO (b := true) (yO rfl rfl B) rfl <| oV (xPt (v := .bool true) ((rfl : ev _ _ _ = _).trans (congrArg Value.bool B)) rfl) rfl <| oN ?_
           obtain rfl := oJ M
           exact ⟨a0, rfl, iR, hs, rfl, aW, aT, aR, ad, aB, aA, az⟩
         rw [if_neg B] at M
         refine oG (yO rfl rfl (bF B)) <| oF (b := A) (o := 0) fl59_1 ad <| oG (yO rfl rfl (bF B)) <| ld1 (k := 0) hs rfl rfl ty24 rfl <| oG (yO rfl rfl (bF B)) ?_
         obtain ⟨a9, cB, M⟩ := bS M
         replace bl := bl.mono ((aa.trans Z).trans Y)
         refine oC (fi := []) (vs := (cL0 (-1000000) 1000000 T (((at' c a).2).length) Q)) (ca := []) rfl ⟨rfl, rfl, rfl, trivial⟩ en26 (f26_ok _ _ _ cB hs bl) ?_
         clear hs; rintro _ w ⟨cZ, cq, hs, rfl⟩
         refine oG (yO rfl rfl (bF B)) <| oV (x_not (b := a9) rfl) rfl <| oV (xPf (v := .bool (!a9)) ((rfl : ev _ _ _ = _).trans (congrArg Value.bool (bF B))) rfl) rfl <| oN ?_
         obtain rfl := oJ M
         exact ⟨cZ, rfl, cq, hs, rfl, aW, aT, aR, ad, aB, aA, az⟩
       clear M hs
       rintro f ds w ⟨ag, rfl, an, hs, htbb1587, b7, b3, bY, aL, bJ, bE, bA⟩
       refine oN <| sK ?_
       by_cases aG : bp = true
       · rw [if_pos aG] at hm
         refine cIt htbb1587 aG <| cQ <| cR <| asI rfl <| oN <| sK <| cw_ret <| seqK_r <| blockK_r <| joinK_r <| loopK_r <| blockK_r ?_
         refine joinK_r <| rK (rs := [.tmp 2]) (vs := [iN 80]) (.inr rfl) rfl ⟨rfl, trivial⟩ ?_
         replace hm := lret hm bi
         replace hm := lret hm b8
         obtain rfl := oJ hm
         replace hs := hs.erase 0
         replace hs := hs.erase 0
         exact ⟨ag, ((((((((((a4.trans ax).trans aw).trans av).trans au).trans ar).trans ab).trans aa).trans Z).trans Y).trans an), hs, rfl⟩
       rw [if_neg aG] at hm
       refine cIf htbb1587 (bF aG) <| cw_skip <| sK ?_
       obtain ⟨cj, bN, ce⟩ := lb_some hm
       replace hm := bN; clear bN
       refine cJ (fun f ds w => ∃ (bT : Unit) (br : Im), ds = [] ∧ Im.le ag br ∧ cj = Sum.inl bT ∧ Sat br (blk A 59 [.slice O (((at' c a).1).length) N, .slice T (((at' c a).2).length) Q] :: blk R 56 (cL4 y x q m h c.length e u t) :: F) w ∧ f 1 = pQ R 0 ∧ f 2 = iN 0 ∧ f 3 = iN s ∧ f 5 = pQ A 0 ∧ f 54 = .slice h c.length e ∧ f 55 = iN (c.length : Int) ∧ f 56 = iN a) ?_ ?_
       · refine cQ <| cR <| oF (b := A) (o := 0) fl59_0 aL <| ld1 (k := 0) hs rfl rfl ty57 rfl <| oV (x_len sl57 rfl) rfl <| mI rfl <| oN <| sK <| cw_block ?_
         refine cL (S := fun k f ds w => ∃ (d : Int), ∃ (ay : Im), ds = [] ∧ Im.le ag ay ∧ f50_l1 c s a k d = some cj ∧ Sat ay (blk A 59 [.slice O (((at' c a).1).length) N, .slice T (((at' c a).2).length) Q] :: blk R 56 (cL4 y x q m h c.length e u t) :: F) w ∧ f 1 = pQ R 0 ∧ f 2 = iN 0 ∧ f 3 = iN s ∧ f 5 = pQ A 0 ∧ f 54 = .slice h c.length e ∧ f 55 = iN (c.length : Int) ∧ f 56 = iN a ∧ f 82 = .slice O (((at' c a).1).length) N ∧ f 83 = iN (((at' c a).1).length : Int) ∧ f 84 = iN d) ?_ (k := FUEL) ⟨0, ag, rfl, iR, hm, hs, b7, b3, bY, aL, bJ, bE, bA, rfl, rfl, rfl⟩
         clear hm hs
         rintro k f ds w ⟨d, ay, rfl, am, hm, hs, bg, be, aC, bc, aP, aN, aM, aK, aJ, ah⟩
         rcases k with _ | k
         · unfold f50_l1 at hm; cases hm
         unfold f50_l1 at hm
         refine cQ <| cR <| oV (x_lss ah aJ) rfl <| oN <| sQR ?_
         by_cases aF : d < (((at' c a).1).length : Int)
         · rw [if_pos aF] at hm
           refine cIt rfl (dT aF) <| cw_skip <| sQR <| cw_block <| cQ <| cR ?_
           have ao := (iS hm).1
           replace hm := (iS hm).2
           replace aI := aI.mono ((((aa.trans Z).trans Y).trans an).trans am)
           refine oI (i := d) sl57 ty24 aK ah ao.1 ao.2 (SN24.some aI (by have := ao; omega)) ?_
           obtain ⟨csu1685, hru1685, hnu1685⟩ := (id aI)
           obtain ⟨vsu1685, hvu1685, cb, b9, rfl, cE⟩ := NL.at rl24.len hnu1685 ao.1 ao.2
           refine oLR (p := d.toNat * 1) (vs := [.slice cb ((at' ((at' c a).1) d).length) b9]) (v := .slice cb ((at' ((at' c a).1) d).length) b9) hs hru1685 rfl ty24 ((cells_part hvu1685 0 1 (by decide)).trans rfl) rfl rfl <| asS rfl <| oN <| sQR <| cR <| mS rfl <| oV (x_len sl24 rfl) rfl <| mI aC <| oV (x_neqD rfl rfl) rfl <| mB rfl ?_
           obtain ⟨bo, L, hm⟩ := bS hm
           refine oJN 4 (fun f ds w => ∃ (aZ : Im), ds = [] ∧ Im.le ay aZ ∧ Sat aZ (blk A 59 [.slice O (((at' c a).1).length) N, .slice T (((at' c a).2).length) Q] :: blk R 56 (cL4 y x q m h c.length e u t) :: F) w ∧ f 96 = .bool bo ∧ f 1 = pQ R 0 ∧ f 2 = iN 0 ∧ f 3 = iN s ∧ f 5 = pQ A 0 ∧ f 54 = .slice h c.length e ∧ f 55 = iN (c.length : Int) ∧ f 56 = iN a ∧ f 82 = .slice O (((at' c a).1).length) N ∧ f 83 = iN (((at' c a).1).length : Int) ∧ f 84 = iN d) ?_ ?_
           · by_cases D : ¬ (((at' ((at' c a).1) d).length : Int) = s)
             · rw [if_pos D] at L
               refine oO (b := true) (yO rfl rfl (dT D)) rfl <| oO (b := true) (yO rfl rfl (dT D)) rfl <| oO (b := true) (yO rfl rfl (dT D)) rfl <| oV (xPt (v := .bool true) ((rfl : ev _ _ _ = _).trans (congrArg Value.bool (dT D))) rfl) rfl <| oN ?_
               obtain rfl := oJ L
               exact ⟨ay, rfl, iR, hs, rfl, bg, be, aC, bc, aP, aN, aM, aK, aJ, ah⟩
             rw [if_neg D] at L
             refine oG (yO rfl rfl (dF D)) <| mS rfl <| oG (yO rfl rfl (dF D)) ?_
             obtain ⟨a8, cA, L⟩ := bS L
             refine oC (fi := []) (vs := (cL0 (-1000) 1000 cb ((at' ((at' c a).1) d).length) b9)) (ca := []) rfl ⟨rfl, rfl, rfl, trivial⟩ en26 (f26_ok _ _ _ cA hs cE) ?_
             clear hs; rintro _ w ⟨cY, cp, hs, rfl⟩
             refine oG (yO rfl rfl (dF D)) <| oV (x_not (b := a8) rfl) rfl <| oV (xPf (v := .bool (!a8)) ((rfl : ev _ _ _ = _).trans (congrArg Value.bool (dF D))) rfl) rfl <| oN ?_
             obtain rfl := oJ L
             exact ⟨cY, rfl, cp, hs, rfl, bg, be, aC, bc, aP, aN, aM, aK, aJ, ah⟩
           clear L hs
           rintro f ds w ⟨aZ, rfl, bR, hs, htbb1689, b6, b2, bX, bV, bI, bD, bz, bv, bu, bt⟩
           refine oN <| sK ?_
           by_cases aE : bo = true
           · rw [if_pos aE] at hm
             refine cIt htbb1689 aE <| cQ <| cR <| asI rfl <| oN <| sK <| cw_ret <| blockK_r <| seqK_r <| loopK_r <| blockK_r <| joinK_r ?_
             refine blockK_r <| joinK_r <| loopK_r <| blockK_r <| joinK_r <| rK (rs := [.tmp 2]) (vs := [iN 80]) (.inr rfl) rfl ⟨rfl, trivial⟩ ?_
             replace hm := lret hm ce
             replace hm := lret hm bi
             replace hm := lret hm b8
             obtain rfl := oJ hm
             replace hs := hs.erase 0
             replace hs := hs.erase 0
             exact ⟨aZ, ((((((((((((a4.trans ax).trans aw).trans av).trans au).trans ar).trans ab).trans aa).trans Z).trans Y).trans an).trans am).trans bR), hs, rfl⟩
           rw [if_neg aE] at hm
           refine cIf htbb1689 (bF aE) <| cw_skip <| blockK_n <| sK <| cR <| oV (x_add bt rfl) rfl <| mI rfl <| oN ?_
           exact lN ⟨k, Nat.lt_succ_self k, w64 (d + 1), aZ, rfl, (am.trans bR), hm, hs, b6, b2, bX, bV, bI, bD, bz, bv, bu, rfl⟩
         rw [if_neg aF] at hm
         refine cIf rfl (dF aF) <| cw_exit <| seqK_x <| loopK_x <| blockK_hit ?_
         obtain rfl := oJ hm
         refine jN ⟨(), ay, rfl, am, rfl, hs, bg, be, aC, bc, aP, aN, aM⟩
       clear hm hs
       rintro f ds w ⟨bT, br, rfl, co, rfl, hs, b4, bZ, cN, bU, bG, bB, bw⟩
       replace hm := lexit rfl ce
       refine cR <| oF (b := A) (o := 0) fl59_1 bU <| ld1 (k := 0) hs rfl rfl ty24 rfl <| oV (x_len sl24 rfl) rfl <| asI rfl <| oN <| blockK_n ?_
       replace hs := hs.erase 0
       obtain rfl := oJ hm
       refine jN ⟨(((at' c a).2).length : Int), br, rfl, ((((aa.trans Z).trans Y).trans an).trans co), rfl, hs, b4, bZ, rfl, bG, bB, bw⟩
     clear hm hs
     rintro f ds w ⟨aq, bs, rfl, cn, rfl, hs, b5, b0, bW, bH, bC, bx⟩
     replace hm := lexit rfl bi
     refine cR <| oV (x_add bx rfl) rfl <| mI rfl <| oN ?_
     exact lN ⟨k, Nat.lt_succ_self k, aq, w64 (a + 1), bs, rfl, (ab.trans cn), hm, hs, b5, b0, bW, bH, bC, rfl⟩
   rw [if_neg aH] at hm
   refine cIf rfl (dF aH) <| cw_exit <| seqK_x <| loopK_x <| blockK_hit ?_
   obtain rfl := oJ hm
   refine jN ⟨s, a1, rfl, ab, rfl, hs, bh, bf, bd⟩
 clear hm hs
 rintro f ds w ⟨a2, a6, rfl, bQ, rfl, hs, ac, a3, cg⟩
 replace hm := lexit rfl b8
 refine cQ <| cQ <| cR <| mI cg <| oV (x_neqD rfl rfl) rfl <| mB rfl ?_
 obtain ⟨bn, W, hm⟩ := bS hm
 refine oJN 6 (fun f ds w => ∃ (aY : Im), ds = [] ∧ Im.le a6 aY ∧ Sat aY (blk R 56 (cL4 y x q m h c.length e u t) :: F) w ∧ f 110 = .bool bn ∧ f 1 = pQ R 0 ∧ f 2 = iN 0) ?_ ?_
 · by_cases z : ¬ (a2 = 1)
   · rw [if_pos z] at W
     refine oO (b := true) (yO rfl rfl (dT z)) rfl <| oO (b := true) (yO rfl rfl (dT z)) rfl <| oO (b := true) (yO rfl rfl (dT z)) rfl <| oO (b := true) (yO rfl rfl (dT z)) rfl <| oO (b := true) (yO rfl rfl (dT z)) rfl <| oV (xPt (v := .bool true) ((rfl : ev _ _ _ = _).trans (congrArg Value.bool (dT z))) rfl) rfl <| oN ?_
     obtain rfl := oJ W
     exact ⟨a6, rfl, iR, hs, rfl, ac, a3⟩
   rw [if_neg z] at W
   refine oG (yO rfl rfl (dF z)) <| oF (b := R) (o := 0) fl56_5 ac <| oG (yO rfl rfl (dF z)) <| ld1 (k := 0) hs rfl rfl ty3 rfl <| oG (yO rfl rfl (dF z)) <| oF (b := R) (o := 0) fl56_6 ac <| oG (yO rfl rfl (dF z)) <| ld1 (k := 0) hs rfl rfl ty3 rfl <| oG (yO rfl rfl (dF z)) <| oV (x_geq rfl rfl) rfl <| oV (xPf (v := .bool (decide (t ≤ u))) ((rfl : ev _ _ _ = _).trans (congrArg Value.bool (dF z))) rfl) rfl <| oN ?_
   obtain rfl := oJ W
   exact ⟨a6, rfl, iR, hs, rfl, ac, a3⟩
 clear W hs
 rintro f ds w ⟨aY, rfl, bP, hs, htbb1702, aV, aS⟩
 refine mB htbb1702 ?_
 obtain ⟨bm, K, hm⟩ := bS hm
 refine oJN 8 (fun f ds w => ∃ (aX : Im), ds = [] ∧ Im.le aY aX ∧ Sat aX (blk R 56 (cL4 y x q m h c.length e u t) :: F) w ∧ f 119 = .bool bm ∧ f 2 = iN 0) ?_ ?_
 · by_cases j : bn = true
   · rw [if_pos j] at K
     refine oO (b := true) (yO rfl rfl j) rfl <| oO (b := true) (yO rfl rfl j) rfl <| oO (b := true) (yO rfl rfl j) rfl <| oO (b := true) (yO rfl rfl j) rfl <| oO (b := true) (yO rfl rfl j) rfl <| oO (b := true) (yO rfl rfl j) rfl <| oO (b := true) (yO rfl rfl j) rfl <| oV (xPt (v := .bool true) ((rfl : ev _ _ _ = _).trans (congrArg Value.bool j)) rfl) rfl <| oN ?_
     obtain rfl := oJ K
     exact ⟨aY, rfl, iR, hs, rfl, aS⟩
   rw [if_neg j] at K
   refine oG (yO rfl rfl (bF j)) <| oF (b := R) (o := 0) fl56_5 aV <| oG (yO rfl rfl (bF j)) <| ld1 (k := 0) hs rfl rfl ty3 rfl <| oG (yO rfl rfl (bF j)) <| oF (b := R) (o := 0) fl56_6 aV <| oG (yO rfl rfl (bF j)) <| ld1 (k := 0) hs rfl rfl ty3 rfl <| oG (yO rfl rfl (bF j)) <| ow_buildSlice (vp := [(0, iN u), (1, iN t)]) (cs := [iN u, iN t]) hs sl24 ty3 rfl ⟨rfl, rfl, rfl, rfl, trivial⟩ (by decide) rfl (by decide) ?_
   clear hs; intro cu cX w cm hs bj
   replace bj : Rs cX 1 cu [u, t].length 2 ([u, t].flatMap e64) := bj
   refine oG (yO rfl rfl (bF j)) ?_
   obtain ⟨a7, cz, K⟩ := bS K
   refine oC (fi := []) (vs := (cL0 (-1152921504606846976) 1152921504606846976 cu ([u, t].length) 2)) (ca := []) rfl ⟨rfl, rfl, rfl, trivial⟩ en26 (f26_ok _ _ _ cz hs bj) ?_
   clear hs; rintro _ w ⟨cW, cl, hs, rfl⟩
   refine oG (yO rfl rfl (bF j)) <| oV (x_not (b := a7) rfl) rfl <| oV (xPf (v := .bool (!a7)) ((rfl : ev _ _ _ = _).trans (congrArg Value.bool (bF j))) rfl) rfl <| oN ?_
   obtain rfl := oJ K
   exact ⟨cW, rfl, (cm.trans cl), hs, rfl, aS⟩
 clear K hs
 rintro f ds w ⟨aX, rfl, bO, hs, htbb1706, cO⟩
 refine oN <| sK ?_
 by_cases aD : bm = true
 · rw [if_pos aD] at hm
   refine cIt htbb1706 aD <| cQ <| cR <| asI rfl <| oN <| sK <| cw_ret <| seqK_r <| rK (rs := [.tmp 2]) (vs := [iN 80]) (.inr rfl) rfl ⟨rfl, trivial⟩ ?_
   obtain rfl := oJ hm
   replace hs := hs.erase 0
   exact ⟨aX, ((((((((a4.trans ax).trans aw).trans av).trans au).trans ar).trans bQ).trans bP).trans bO), hs, rfl⟩
 rw [if_neg aD] at hm
 refine cIf htbb1706 (bF aD) <| cw_skip <| sQR <| cR <| asI rfl <| oN <| sK <| cw_ret <| rK (rs := [.tmp 2]) (vs := [iN 0]) (.inr rfl) rfl ⟨rfl, trivial⟩ ?_
 obtain rfl := oJ hm
 replace hs := hs.erase 0
 exact ⟨aX, ((((((((a4.trans ax).trans aw).trans av).trans au).trans ar).trans bQ).trans bP).trans bO), hs, rfl⟩
def f45_l0 (e : List (Int × Int × List Int)) : Nat → Int → Option (Sum Unit Bool)
  | 0, _ => none
  | k + 1, a => (if a < (e.length : Int) then (if 0 ≤ a ∧ a < (e.length : Int) then ((f74_m ((at' e a).1) ((at' e a).2.1) ((at' e a).2.2)).bind fun N => ((if ¬ (N = 0) then some true else ((f26_m 0 255 ((at' e a).2.2)).bind fun C => some (!C))).bind fun E => (if E = true then some (Sum.inr false) else (f45_l0 e k (w64 (a + 1)))))) else none) else some (Sum.inl ()))
def f45_m (e : List (Int × Int × List Int)) : Option Bool :=
  (lb (S := Unit) (f45_l0 e FUEL 0) id (fun Z => some true))
theorem f45_ok (e : List (Int × Int × List Int)) {r : Bool} (hm : f45_m e = some r) {U : Option Addr} {T : Nat} {I : Im} {F : List HP} {w : World} (hs : Sat I (F) w) (O : SN26 I U e.length T e) :
    CV P 45 [.slice U e.length T] w fun v w' => ∃ (J : Im), Im.le I J ∧ Sat J (F) w' ∧ v = .bool r := by
 unfold f45_m at hm
 refine cv_of (n := 21) Proofs.Tryz.func45 rfl rfl (nLe rfl) <| cQ <| cR <| asB rfl <| oN <| sK ?_
 obtain ⟨ac, ae, W⟩ := lb_some hm
 replace hm := ae; clear ae
 refine cJ (fun f ds w => ∃ (Z : Unit) (V : Im), ds = [] ∧ Im.le I V ∧ ac = Sum.inl Z ∧ Sat V (F) w ∧ f 2 = .bool false) ?_ ?_
 · refine cQ <| cR <| mS rfl <| oV (x_len sl86 rfl) rfl <| mI rfl <| oN <| sK <| cw_block ?_
   refine cL (S := fun k f ds w => ∃ (a : Int), ∃ (G : Im), ds = [] ∧ Im.le I G ∧ f45_l0 e k a = some ac ∧ Sat G (F) w ∧ f 2 = .bool false ∧ f 5 = .slice U e.length T ∧ f 6 = iN (e.length : Int) ∧ f 7 = iN a) ?_ (k := FUEL) ⟨0, I, rfl, iR, hm, hs, rfl, rfl, rfl, rfl⟩
   clear hm hs
   rintro k f ds w ⟨a, G, rfl, m, hm, hs, u, t, s, l⟩
   rcases k with _ | k
   · unfold f45_l0 at hm; cases hm
   unfold f45_l0 at hm
   refine cQ <| cR <| oV (x_lss l s) rfl <| oN <| sQR ?_
   by_cases z : a < (e.length : Int)
   · rw [if_pos z] at hm
     refine cIt rfl (dT z) <| cw_skip <| sQR <| cw_block <| cQ <| cR ?_
     have q := (iS hm).1
     replace hm := (iS hm).2
     replace O := O.mono m
     refine oI (i := a) sl86 ty26 t l q.1 q.2 (SN26.some O (by have := q; omega)) ?_
     obtain ⟨csu124, hru124, hnu124⟩ := (id O)
     obtain ⟨vsu124, hvu124, j, h, rfl, A⟩ := NL.at rl26.len hnu124 q.1 q.2
     refine oLR (p := a.toNat * 3) (vs := (rL2 (at' e a) j h)) (v := .agg (rL2 (at' e a) j h).toArray) hs hru124 rfl ty26 ((cells_part hvu124 0 3 (by decide)).trans rfl) rfl rfl <| ow_alloc hs ty26 rfl ?_
     clear hs; intro X w hs
     refine oS (k := 0) (vs := (rL2 (at' e a) j h)) (cs' := (rL2 (at' e a) j h)) hs rfl rfl rfl ty26 rfl rfl (nLe rfl) rfl rfl ?_
     clear hs; intro w hs
     refine oN <| sQR <| cR <| oL (k := 0) (vs := (rL2 (at' e a) j h)) (v := .agg (rL2 (at' e a) j h).toArray) hs rfl rfl ty26 rfl rfl rfl ?_
     obtain ⟨N, ab, hm⟩ := bS hm
     refine oC (fi := []) (vs := [.agg (rL2 (at' e a) j h).toArray]) (ca := []) rfl ⟨rfl, trivial⟩ en74 (f74_ok _ _ _ ab hs A) ?_
     clear hs; rintro _ w ⟨Y, x, hs, rfl⟩
     refine oV (x_neqD rfl rfl) rfl <| mB rfl ?_
     obtain ⟨E, d, hm⟩ := bS hm
     refine oJN 5 (fun f ds w => ∃ (B : Im), ds = [] ∧ Im.le Y B ∧ Sat B (blk X 26 (rL2 (at' e a) j h) :: F) w ∧ f 19 = .bool E ∧ f 2 = .bool false ∧ f 5 = .slice U e.length T ∧ f 6 = iN (e.length : Int) ∧ f 7 = iN a) ?_ ?_
     · by_cases c : ¬ (N = 0)
       · rw [if_pos c] at d
         refine oO (b := true) (yO rfl rfl (dT c)) rfl <| oO (b := true) (yO rfl rfl (dT c)) rfl <| oO (b := true) (yO rfl rfl (dT c)) rfl <| oO (b := true) (yO rfl rfl (dT c)) rfl <| oV (xPt (v := .bool true) ((rfl : ev _ _ _ = _).trans (congrArg Value.bool (dT c))) rfl) rfl <| oN ?_
         obtain rfl := oJ d
         exact ⟨Y, rfl, iR, hs, rfl, u, t, s, l⟩
       rw [if_neg c] at d
       refine oG (yO rfl rfl (dF c)) <| oF (b := X) (o := 0) fl26_2 rfl <| oG (yO rfl rfl (dF c)) <| ld1 (k := 0) hs rfl rfl ty24 rfl <| oG (yO rfl rfl (dF c)) ?_
       obtain ⟨C, aa, d⟩ := bS d
       replace A := A.mono x
       refine oC (fi := []) (vs := (cL0 0 255 j (((at' e a).2.2).length) h)) (ca := []) rfl ⟨rfl, rfl, rfl, trivial⟩ en26 (f26_ok _ _ _ aa hs A) ?_
       clear hs; rintro _ w ⟨af, R, hs, rfl⟩
       refine oG (yO rfl rfl (dF c)) <| oV (x_not (b := C) rfl) rfl <| oV (xPf (v := .bool (!C)) ((rfl : ev _ _ _ = _).trans (congrArg Value.bool (dF c))) rfl) rfl <| oN ?_
       obtain rfl := oJ d
       exact ⟨af, rfl, R, hs, rfl, u, t, s, l⟩
     clear d hs
     rintro f ds w ⟨B, rfl, D, hs, htbb135, M, L, K, H⟩
     refine oN <| sK ?_
     by_cases y : E = true
     · rw [if_pos y] at hm
       refine cIt htbb135 y <| cQ <| cR <| asB rfl <| oN <| sK <| cw_ret <| blockK_r <| seqK_r <| loopK_r <| blockK_r <| joinK_r ?_
       refine rK (rs := [.tmp 2]) (vs := [.bool false]) (.inr rfl) rfl ⟨rfl, trivial⟩ ?_
       replace hm := lret hm W
       obtain rfl := oJ hm
       replace hs := hs.erase 0
       exact ⟨B, ((m.trans x).trans D), hs, rfl⟩
     rw [if_neg y] at hm
     refine cIf htbb135 (bF y) <| cw_skip <| blockK_n <| sK <| cR <| oV (x_add H rfl) rfl <| mI rfl <| oN ?_
     replace hs := hs.erase 0
     exact lN ⟨k, Nat.lt_succ_self k, w64 (a + 1), B, rfl, ((m.trans x).trans D), hm, hs, M, L, K, rfl⟩
   rw [if_neg z] at hm
   refine cIf rfl (dF z) <| cw_exit <| seqK_x <| loopK_x <| blockK_hit ?_
   obtain rfl := oJ hm
   refine jN ⟨(), G, rfl, m, rfl, hs, u⟩
 clear hm hs
 rintro f ds w ⟨Z, V, rfl, Q, rfl, hs, ad⟩
 replace hm := lexit rfl W
 refine cQ <| cR <| asB rfl <| oN <| sK <| cw_ret <| rK (rs := [.tmp 2]) (vs := [.bool true]) (.inr rfl) rfl ⟨rfl, trivial⟩ ?_
 obtain rfl := oJ hm
 exact ⟨V, Q, hs, rfl⟩
def f21_l0 (d : Int) (c : Int) (x : List (Int × Int × List Int)) : Nat → Int → Option (Sum Unit Int)
  | 0, _ => none
  | k + 1, a => (if a < (x.length : Int) then (if 0 ≤ a ∧ a < (x.length : Int) then ((if ¬ (((at' x a).1) = d) then some true else some (decide (¬ (((at' x a).2.1) = c)))).bind fun ad => (if ad = true then some (Sum.inr 21) else (f21_l0 d c x k (w64 (a + 1))))) else none) else some (Sum.inl ()))
def f21_m (d : Int) (c : Int) (t : Int) (s : Int) (e : List (List (List Int) × List Int)) (q : Int) (m : Int) (x : List (Int × Int × List Int)) : Option Int :=
  ((f50_m d c t s e q m).bind fun r3 => (if ¬ (r3 = 0) then some r3 else ((f45_m x).bind fun r9 => (if (!r9) = true then some 20 else (lb (S := Unit) (f21_l0 d c x FUEL 0) id (fun ah => some 0))))))
theorem f21_ok (d : Int) (c : Int) (t : Int) (s : Int) (e : List (List (List Int) × List Int)) (q : Int) (m : Int) (x : List (Int × Int × List Int)) {r : Int} (hm : f21_m d c t s e q m x = some r) {l : Option Addr} {j : Nat} {Z : Option Addr} {X : Nat} {I : Im} {F : List HP} {w : World} (hs : Sat I (F) w) (ai : SN59 I l e.length j e) (K : SN26 I Z x.length X x) :
    CV P 21 [.agg (cL4 d c t s l e.length j q m).toArray, .slice Z x.length X] w fun v w' => ∃ (J : Im), Im.le I J ∧ Sat J (F) w' ∧ v = iN r := by
 unfold f21_m at hm
 refine cv_of (n := 35) Proofs.Tryz.func21 rfl rfl (nLe rfl) <| cQ <| cR <| oB (v := .agg (cL4 d c t s l e.length j q m).toArray) (cs := (cL4 d c t s l e.length j q m)) hs rfl rfl ?_
 clear hs; intro b1 w hs
 refine asI rfl <| oN <| sQR <| cQ <| cR <| oL (k := 0) (vs := (cL4 d c t s l e.length j q m)) (v := .agg (cL4 d c t s l e.length j q m).toArray) hs rfl rfl ty56 rfl rfl rfl ?_
 obtain ⟨r3, au, hm⟩ := bS hm
 refine oC (fi := []) (vs := [.agg (cL4 d c t s l e.length j q m).toArray]) (ca := []) rfl ⟨rfl, trivial⟩ en50 (f50_ok _ _ _ _ _ _ _ au hs ai) ?_
 clear hs; rintro _ w ⟨J5, G, hs, rfl⟩
 refine asI rfl <| oN <| sQR <| cR <| mI rfl <| oV (x_neqD rfl rfl) rfl <| oN <| sK ?_
 by_cases ac : ¬ (r3 = 0)
 · rw [if_pos ac] at hm
   refine cIt rfl (dT ac) <| cQ <| cR <| mI rfl <| asI rfl <| oN <| sK <| cw_ret <| seqK_r <| rK (rs := [.tmp 4]) (vs := [iN r3]) (.inr rfl) rfl ⟨rfl, trivial⟩ ?_
   obtain rfl := oJ hm
   replace hs := hs.erase 0
   exact ⟨J5, G, hs, rfl⟩
 rw [if_neg ac] at hm
 refine cIf rfl (dF ac) <| cw_skip <| sQR <| cQ <| cR <| mS rfl ?_
 obtain ⟨r9, ap, hm⟩ := bS hm
 replace K := K.mono G
 refine oC (fi := []) (vs := [.slice Z x.length X]) (ca := []) rfl ⟨rfl, trivial⟩ en45 (f45_ok _ ap hs K) ?_
 clear hs; rintro _ w ⟨ae, E, hs, rfl⟩
 refine oV (x_not (b := r9) rfl) rfl <| oN <| sK ?_
 by_cases O : (!r9) = true
 · rw [if_pos O] at hm
   refine cIt rfl O <| cQ <| cR <| asI rfl <| oN <| sK <| cw_ret <| seqK_r <| rK (rs := [.tmp 4]) (vs := [iN 20]) (.inr rfl) rfl ⟨rfl, trivial⟩ ?_
   obtain rfl := oJ hm
   replace hs := hs.erase 0
   exact ⟨ae, (G.trans E), hs, rfl⟩
 rw [if_neg O] at hm
 refine cIf rfl (bF O) <| cw_skip <| sK ?_
 obtain ⟨an, aq, ag⟩ := lb_some hm
 replace hm := aq; clear aq
 refine cJ (fun f ds w => ∃ (ah : Unit) (af : Im), ds = [] ∧ Im.le ae af ∧ an = Sum.inl ah ∧ Sat af (blk b1 56 (cL4 d c t s l e.length j q m) :: F) w ∧ f 4 = iN 0) ?_ ?_
 · refine cQ <| cR <| mS rfl <| oV (x_len sl86 rfl) rfl <| mI rfl <| oN <| sK <| cw_block ?_
   refine cL (S := fun k f ds w => ∃ (a : Int), ∃ (L : Im), ds = [] ∧ Im.le ae L ∧ f21_l0 d c x k a = some an ∧ Sat L (blk b1 56 (cL4 d c t s l e.length j q m) :: F) w ∧ f 2 = pQ b1 0 ∧ f 4 = iN 0 ∧ f 16 = .slice Z x.length X ∧ f 17 = iN (x.length : Int) ∧ f 18 = iN a) ?_ (k := FUEL) ⟨0, ae, rfl, iR, hm, hs, rfl, rfl, rfl, rfl, rfl⟩
   clear hm hs
   rintro k f ds w ⟨a, L, rfl, D, hm, hs, y, C, A, z, u⟩
   rcases k with _ | k
   · unfold f21_l0 at hm; cases hm
   unfold f21_l0 at hm
   refine cQ <| cR <| oV (x_lss u z) rfl <| oN <| sQR ?_
   by_cases N : a < (x.length : Int)
   · rw [if_pos N] at hm
     refine cIt rfl (dT N) <| cw_skip <| sQR <| cw_block <| cQ <| cR ?_
     have H := (iS hm).1
     replace hm := (iS hm).2
     replace K := K.mono (E.trans D)
     refine oI (i := a) sl86 ty26 A u H.1 H.2 (SN26.some K (by have := H; omega)) ?_
     obtain ⟨csu88, hru88, hnu88⟩ := (id K)
     obtain ⟨vsu88, hvu88, aa, Y, rfl, av⟩ := NL.at rl26.len hnu88 H.1 H.2
     refine oLR (p := a.toNat * 3) (vs := (rL2 (at' x a) aa Y)) (v := .agg (rL2 (at' x a) aa Y).toArray) hs hru88 rfl ty26 ((cells_part hvu88 0 3 (by decide)).trans rfl) rfl rfl <| ow_alloc hs ty26 rfl ?_
     clear hs; intro ak w hs
     refine oS (k := 0) (vs := (rL2 (at' x a) aa Y)) (cs' := (rL2 (at' x a) aa Y)) hs rfl rfl rfl ty26 rfl rfl (nLe rfl) rfl rfl ?_
     clear hs; intro w hs
     refine oN <| sQR <| cR <| oF (b := ak) (o := 0) fl26_0 rfl <| ld1 (k := 0) hs rfl rfl ty3 rfl <| oF (b := b1) (o := 0) fl56_0 y <| ld1 (k := 1) hs rfl rfl ty3 rfl <| oV (x_neqD rfl rfl) rfl <| mB rfl ?_
     obtain ⟨ad, B, hm⟩ := bS hm
     refine oJN 6 (fun f ds w => ∃ (ab : Im), ds = [] ∧ Im.le L ab ∧ Sat ab (blk ak 26 (rL2 (at' x a) aa Y) :: blk b1 56 (cL4 d c t s l e.length j q m) :: F) w ∧ f 33 = .bool ad ∧ f 2 = pQ b1 0 ∧ f 4 = iN 0 ∧ f 16 = .slice Z x.length X ∧ f 17 = iN (x.length : Int) ∧ f 18 = iN a) ?_ ?_
     · by_cases h : ¬ (((at' x a).1) = d)
       · rw [if_pos h] at B
         refine oO (b := true) (yO rfl rfl (dT h)) rfl <| oO (b := true) (yO rfl rfl (dT h)) rfl <| oO (b := true) (yO rfl rfl (dT h)) rfl <| oO (b := true) (yO rfl rfl (dT h)) rfl <| oO (b := true) (yO rfl rfl (dT h)) rfl <| oV (xPt (v := .bool true) ((rfl : ev _ _ _ = _).trans (congrArg Value.bool (dT h))) rfl) rfl <| oN ?_
         obtain rfl := oJ B
         exact ⟨L, rfl, iR, hs, rfl, y, C, A, z, u⟩
       rw [if_neg h] at B
       refine oG (yO rfl rfl (dF h)) <| oF (b := ak) (o := 0) fl26_1 rfl <| oG (yO rfl rfl (dF h)) <| ld1 (k := 0) hs rfl rfl ty3 rfl <| oG (yO rfl rfl (dF h)) <| oF (b := b1) (o := 0) fl56_1 y <| oG (yO rfl rfl (dF h)) <| ld1 (k := 1) hs rfl rfl ty3 rfl <| oG (yO rfl rfl (dF h)) <| oV (x_neqD rfl rfl) rfl <| oV (xPf (v := .bool (decide (¬ (((at' x a).2.1) = c)))) ((rfl : ev _ _ _ = _).trans (congrArg Value.bool (dF h))) rfl) rfl <| oN ?_
       obtain rfl := oJ B
       exact ⟨L, rfl, iR, hs, rfl, y, C, A, z, u⟩
     clear B hs
     rintro f ds w ⟨ab, rfl, W, hs, htbb94, V, U, T, R, Q⟩
     refine oN <| sK ?_
     by_cases M : ad = true
     · rw [if_pos M] at hm
       refine cIt htbb94 M <| cQ <| cR <| asI rfl <| oN <| sK <| cw_ret <| blockK_r <| seqK_r <| loopK_r <| blockK_r <| joinK_r ?_
       refine rK (rs := [.tmp 4]) (vs := [iN 21]) (.inr rfl) rfl ⟨rfl, trivial⟩ ?_
       replace hm := lret hm ag
       obtain rfl := oJ hm
       replace hs := hs.erase 0
       replace hs := hs.erase 0
       exact ⟨ab, (((G.trans E).trans D).trans W), hs, rfl⟩
     rw [if_neg M] at hm
     refine cIf htbb94 (bF M) <| cw_skip <| blockK_n <| sK <| cR <| oV (x_add Q rfl) rfl <| mI rfl <| oN ?_
     replace hs := hs.erase 0
     exact lN ⟨k, Nat.lt_succ_self k, w64 (a + 1), ab, rfl, (D.trans W), hm, hs, V, U, T, R, rfl⟩
   rw [if_neg N] at hm
   refine cIf rfl (dF N) <| cw_exit <| seqK_x <| loopK_x <| blockK_hit ?_
   obtain rfl := oJ hm
   refine jN ⟨(), L, rfl, D, rfl, hs, C⟩
 clear hm hs
 rintro f ds w ⟨ah, af, rfl, aj, rfl, hs, ao⟩
 replace hm := lexit rfl ag
 refine cQ <| cR <| asI rfl <| oN <| sK <| cw_ret <| rK (rs := [.tmp 4]) (vs := [iN 0]) (.inr rfl) rfl ⟨rfl, trivial⟩ ?_
 obtain rfl := oJ hm
 replace hs := hs.erase 0
 exact ⟨af, ((G.trans E).trans aj), hs, rfl⟩
def f22_l0 (B : Int) (A : Int) (e : Int) (l : Int) (u : Int) (C : List Int) : Nat → Int → (List Int) → Option (List Int)
  | 0, _, _ => none
  | k + 1, d, y => (if d < (C.length : Int) then (if 0 ≤ d ∧ d < (C.length : Int) then (if u ≠ 0 then (if (w64 (Int.tdiv A l)) ≠ 0 then (if u ≠ 0 then (if (w64 (Int.tdiv B e)) ≠ 0 then (if 0 ≤ (w64 ((w64 ((w64 (Int.tdiv (w64 (Int.tdiv d u)) (w64 (Int.tdiv A l)))) * e)) + (w64 (Int.tdiv (Int.tmod d u) (w64 (Int.tdiv B e)))))) ∧ (w64 ((w64 ((w64 (Int.tdiv (w64 (Int.tdiv d u)) (w64 (Int.tdiv A l)))) * e)) + (w64 (Int.tdiv (Int.tmod d u) (w64 (Int.tdiv B e)))))) < (y.length : Int) then (if 0 ≤ (w64 ((w64 ((w64 (Int.tdiv (w64 (Int.tdiv d u)) (w64 (Int.tdiv A l)))) * e)) + (w64 (Int.tdiv (Int.tmod d u) (w64 (Int.tdiv B e)))))) ∧ (w64 ((w64 ((w64 (Int.tdiv (w64 (Int.tdiv d u)) (w64 (Int.tdiv A l)))) * e)) + (w64 (Int.tdiv (Int.tmod d u) (w64 (Int.tdiv B e)))))) < (y.length : Int) then (f22_l0 B A e l u C k (w64 (d + 1)) (y.set (w64 ((w64 ((w64 (Int.tdiv (w64 (Int.tdiv d u)) (w64 (Int.tdiv A l)))) * e)) + (w64 (Int.tdiv (Int.tmod d u) (w64 (Int.tdiv B e)))))).toNat (w64 ((at' y (w64 ((w64 ((w64 (Int.tdiv (w64 (Int.tdiv d u)) (w64 (Int.tdiv A l)))) * e)) + (w64 (Int.tdiv (Int.tmod d u) (w64 (Int.tdiv B e))))))) + (at' C d))))) else none) else none) else none) else none) else none) else none) else none) else some y)
def f22_m (B : Int) (A : Int) (e : Int) (l : Int) (H : List (List (List Int) × List Int)) (Q : Int) (O : Int) (u : Int) (N : Int) (C : List Int) : Option (List Int) :=
  (if 0 ≤ (w64 (e * l)) ∧ (w64 (e * l)) ≤ (w64 (e * l)) ∧ (w64 (e * l)) ≤ 1099511627776 then (if e ≠ 0 then (if l ≠ 0 then ((f22_l0 B A e l u C FUEL 0 (List.replicate (w64 (e * l)).toNat (0 : Int))).bind fun (ar : List Int) => some ar) else none) else none) else none)
theorem f22_ok (B : Int) (A : Int) (e : Int) (l : Int) (H : List (List (List Int) × List Int)) (Q : Int) (O : Int) (u : Int) (N : Int) (C : List Int) {r : List Int} (hm : f22_m B A e l H Q O u N C = some r) {M : Option Addr} {K : Nat} {G : Option Addr} {E : Nat} {I : Im} {F : List HP} {w : World} (hs : Sat I (F) w) (a2 : SN59 I M H.length K H) (T : Rs I 1 G C.length E (C.flatMap e64)) :
    CV P 22 [.agg (cL4 B A e l M H.length K Q O).toArray, .agg (cL0 u N G C.length E).toArray] w fun v w' => ∃ (J : Im) (a0 : Option Addr) (c0 : Nat), Im.le I J ∧ Sat J (F) w' ∧ v = .slice a0 r.length c0 ∧ Rs J 1 a0 r.length c0 (r.flatMap e64) := by
 unfold f22_m at hm
 refine cv_of (n := 58) Proofs.Tryz.func22 rfl rfl (nLe rfl) <| cQ <| cR <| oB (v := .agg (cL4 B A e l M H.length K Q O).toArray) (cs := (cL4 B A e l M H.length K Q O)) hs rfl rfl ?_
 clear hs; intro b1 w hs
 refine oB (v := .agg (cL0 u N G C.length E).toArray) (cs := (cL0 u N G C.length E)) hs rfl rfl ?_
 clear hs; intro b3 w hs
 refine asS rfl <| oN <| sQR <| cR <| oF (b := b1) (o := 0) fl56_2 rfl <| ld1 (k := 1) hs rfl rfl ty3 rfl <| oF (b := b1) (o := 0) fl56_3 rfl <| ld1 (k := 1) hs rfl rfl ty3 rfl <| oV (x_mul rfl rfl) rfl ?_
 have aQ := (iS hm).1
 replace hm := (iS hm).2
 refine ow_makeT (enc := e64) (z := (0 : Int)) (i := (w64 (e * l))) (j := (w64 (e * l))) hs sl24 ty3 el3 rfl rfl rfl rfl aQ.1 aQ.2.1 aQ.2.2 (by decide) ?_
 clear hs; intro W w hs
 refine asS rfl <| oN <| sQR ?_
 have a4 := (iS hm).1
 replace hm := (iS hm).2
 have a3 := (iS hm).1
 replace hm := (iS hm).2
 refine cD mixed rfl (fun f0 L f w => ∃ (D : Im), Im.le I D ∧ f = frL [(16, 0, pQ b1 0), (17, 1, iN B), (18, 2, pQ b1 2), (19, 3, iN e), (20, 4, iN (w64 (Int.tdiv B e))), (21, 5, pQ b1 1), (22, 6, iN A), (23, 7, pQ b1 3), (24, 8, iN l), (25, 9, iN (w64 (Int.tdiv A l))), (6, 10, iN (w64 (Int.tdiv B e))), (7, 11, iN (w64 (Int.tdiv A l)))] L f0 ∧ Sat D (osl 3 1 W (List.replicate (w64 (e * l)).toNat (0 : Int)).length ((w64 (e * l)).toNat) ((List.replicate (w64 (e * l)).toNat (0 : Int)).flatMap e64) :: blk b3 26 (cL0 u N G C.length E) :: blk b1 56 (cL4 B A e l M H.length K Q O) :: F) w) ⟨I, iR, (frL_ff _).symm, hs.drew⟩ ⟨?_, ?_, ?_, ?_, ?_, ?_, ?_, ?_, ?_, ?_, ?_, ?_, trivial⟩ ?_
 all_goals clear hs
 · rintro L f w _ hL ⟨D, x, rfl, hs⟩
   refine oF (b := b1) (o := 0) fl56_0 rfl ?_
   exact oN ⟨rfl, rfl, D, x, fS rfl rfl, hs⟩
 · rintro L f w ⟨ac, _⟩ hL ⟨D, x, rfl, hs⟩
   refine ld1 (k := 2) hs rfl (fG rfl ac) ty3 rfl ?_
   exact oN ⟨rfl, rfl, D, x, fS rfl rfl, hs⟩
 · rintro L f w _ hL ⟨D, x, rfl, hs⟩
   refine oF (b := b1) (o := 0) fl56_2 rfl ?_
   exact oN ⟨rfl, rfl, D, x, fS rfl rfl, hs⟩
 · rintro L f w ⟨ag, _⟩ hL ⟨D, x, rfl, hs⟩
   refine ld1 (k := 2) hs rfl (fG rfl ag) ty3 rfl ?_
   exact oN ⟨rfl, rfl, D, x, fS rfl rfl, hs⟩
 · rintro L f w ⟨ah, af, _⟩ hL ⟨D, x, rfl, hs⟩
   refine oV (x_quo (fG rfl ah) (fG rfl af) a4) rfl ?_
   exact oN ⟨rfl, rfl, D, x, fS rfl rfl, hs⟩
 · rintro L f w _ hL ⟨D, x, rfl, hs⟩
   refine oF (b := b1) (o := 0) fl56_1 rfl ?_
   exact oN ⟨rfl, rfl, D, x, fS rfl rfl, hs⟩
 · rintro L f w ⟨ax, _⟩ hL ⟨D, x, rfl, hs⟩
   refine ld1 (k := 2) hs rfl (fG rfl ax) ty3 rfl ?_
   exact oN ⟨rfl, rfl, D, x, fS rfl rfl, hs⟩
 · rintro L f w _ hL ⟨D, x, rfl, hs⟩
   refine oF (b := b1) (o := 0) fl56_3 rfl ?_
   exact oN ⟨rfl, rfl, D, x, fS rfl rfl, hs⟩
 · rintro L f w ⟨av, _⟩ hL ⟨D, x, rfl, hs⟩
   refine ld1 (k := 2) hs rfl (fG rfl av) ty3 rfl ?_
   exact oN ⟨rfl, rfl, D, x, fS rfl rfl, hs⟩
 · rintro L f w ⟨aw, au, _⟩ hL ⟨D, x, rfl, hs⟩
   refine oV (x_quo (fG rfl aw) (fG rfl au) a3) rfl ?_
   exact oN ⟨rfl, rfl, D, x, fS rfl rfl, hs⟩
 · rintro L f w ⟨ay, ac, ah, ag, af, _, _⟩ hL ⟨D, x, rfl, hs⟩
   refine asI (fG rfl ay) ?_
   exact oN ⟨rfl, rfl, D, x, fS rfl rfl, hs⟩
 · rintro L f w ⟨aC, aq, ac, ah, ag, af, ay, ax, aw, av, au, _, _, _⟩ hL ⟨D, x, rfl, hs⟩
   refine asI (fG rfl aC) ?_
   exact oN ⟨rfl, rfl, D, x, fS rfl rfl, hs⟩
 rintro L f w hall ⟨aS, aB, rfl, hs⟩
 rw [frL_tt _ rfl hall]
 refine sK ?_
 obtain ⟨ar, aV, aU⟩ := bS hm
 replace hm := aV; clear aV
 refine cJ (fun f ds w => ∃ (aR : Im), ds = [] ∧ Im.le aS aR ∧ Sat aR (osl 3 1 W (List.replicate (w64 (e * l)).toNat (0 : Int)).length ((w64 (e * l)).toNat) (ar.flatMap e64) :: blk b3 26 (cL0 u N G C.length E) :: blk b1 56 (cL4 B A e l M H.length K Q O) :: F) w ∧ f 4 = .slice none 0 0 ∧ f 5 = .slice W ((List.replicate (w64 (e * l)).toNat (0 : Int)).length) ((w64 (e * l)).toNat)) ?_ ?_
 · refine cQ <| cR <| oF (b := b3) (o := 0) fl26_2 rfl <| ld1 (k := 1) hs rfl rfl ty24 rfl <| oV (x_len sl24 rfl) rfl <| mI rfl <| oN <| sK <| cw_block ?_
   refine cL (S := fun k f ds w => ∃ (d : Int) (y : List Int), ∃ (az : Im), ds = [] ∧ Im.le aS az ∧ f22_l0 B A e l u C k d y = some ar ∧ Sat az (osl 3 1 W (List.replicate (w64 (e * l)).toNat (0 : Int)).length ((w64 (e * l)).toNat) (y.flatMap e64) :: blk b3 26 (cL0 u N G C.length E) :: blk b1 56 (cL4 B A e l M H.length K Q O) :: F) w ∧ f 2 = pQ b1 0 ∧ f 3 = pQ b3 0 ∧ f 4 = .slice none 0 0 ∧ f 5 = .slice W ((List.replicate (w64 (e * l)).toNat (0 : Int)).length) ((w64 (e * l)).toNat) ∧ f 6 = iN (w64 (Int.tdiv B e)) ∧ f 7 = iN (w64 (Int.tdiv A l)) ∧ f 27 = .slice G C.length E ∧ f 28 = iN (C.length : Int) ∧ f 29 = iN d) ?_ (k := FUEL) ⟨0, List.replicate (w64 (e * l)).toNat (0 : Int), aS, rfl, iR, hm, hs, rfl, rfl, rfl, rfl, rfl, rfl, rfl, rfl, rfl⟩
   clear hm hs
   rintro k f ds w ⟨d, y, az, rfl, ae, hm, hs, al, V, ak, U, aj, ai, Y, X, R⟩
   rcases k with _ | k
   · unfold f22_l0 at hm; cases hm
   unfold f22_l0 at hm
   refine cQ <| cR <| oV (x_lss R X) rfl <| oN <| sQR ?_
   by_cases am : d < (C.length : Int)
   · rw [if_pos am] at hm
     refine cIt rfl (dT am) <| cw_skip <| sQR <| cw_block <| cQ <| cR <| mI R ?_
     have ab := (iS hm).1
     replace hm := (iS hm).2
     replace T := T.mono (aB.trans ae)
     refine oI (i := d) sl24 ty3 Y R ab.1 ab.2 (Rs.some T (by have := ab; omega)) <| oLR (p := d.toNat * 1) (vs := [iN (at' C d)]) (v := iN (at' C d)) hs T rfl ty3 (flat_at (enc := e64) (sz := 1) (fun _ => rfl) C d ab.1 ab.2 0 1 (by decide)) rfl rfl <| asI rfl <| asI rfl <| oN <| sK ?_
     have aZ := (iS hm).1
     replace hm := (iS hm).2
     have aY := (iS hm).1
     replace hm := (iS hm).2
     have aX := (iS hm).1
     replace hm := (iS hm).2
     have aW := (iS hm).1
     replace hm := (iS hm).2
     have aa := (iS hm).1
     replace hm := (iS hm).2
     have Z := (iS hm).1
     replace hm := (iS hm).2
     refine cD mixed rfl (fun f0 L f w => ∃ (D : Im), Im.le az D ∧ f = frL [(34, 0, .slice W ((List.replicate (w64 (e * l)).toNat (0 : Int)).length) ((w64 (e * l)).toNat)), (35, 1, iN d), (36, 2, pQ b3 0), (37, 3, iN u), (38, 4, iN (w64 (Int.tdiv d u))), (39, 5, iN (w64 (Int.tdiv A l))), (40, 6, iN (w64 (Int.tdiv (w64 (Int.tdiv d u)) (w64 (Int.tdiv A l))))), (41, 7, pQ b1 2), (42, 8, iN e), (43, 9, iN (w64 ((w64 (Int.tdiv (w64 (Int.tdiv d u)) (w64 (Int.tdiv A l)))) * e))), (44, 10, iN d), (45, 11, pQ b3 0), (46, 12, iN u), (47, 13, iN (Int.tmod d u)), (48, 14, iN (w64 (Int.tdiv B e))), (49, 15, iN (w64 (Int.tdiv (Int.tmod d u) (w64 (Int.tdiv B e))))), (50, 16, iN (w64 ((w64 ((w64 (Int.tdiv (w64 (Int.tdiv d u)) (w64 (Int.tdiv A l)))) * e)) + (w64 (Int.tdiv (Int.tmod d u) (w64 (Int.tdiv B e))))))), (51, 17, .pointer (some (ea W ((w64 ((w64 ((w64 (Int.tdiv (w64 (Int.tdiv d u)) (w64 (Int.tdiv A l)))) * e)) + (w64 (Int.tdiv (Int.tmod d u) (w64 (Int.tdiv B e)))))).toNat * 1)))), (52, 18, iN (at' y (w64 ((w64 ((w64 (Int.tdiv (w64 (Int.tdiv d u)) (w64 (Int.tdiv A l)))) * e)) + (w64 (Int.tdiv (Int.tmod d u) (w64 (Int.tdiv B e)))))))), (53, 19, iN (at' C d)), (54, 20, iN (w64 ((at' y (w64 ((w64 ((w64 (Int.tdiv (w64 (Int.tdiv d u)) (w64 (Int.tdiv A l)))) * e)) + (w64 (Int.tdiv (Int.tmod d u) (w64 (Int.tdiv B e))))))) + (at' C d)))), (55, 21, .pointer (some (ea W ((w64 ((w64 ((w64 (Int.tdiv (w64 (Int.tdiv d u)) (w64 (Int.tdiv A l)))) * e)) + (w64 (Int.tdiv (Int.tmod d u) (w64 (Int.tdiv B e)))))).toNat * 1))))] L f0 ∧ Sat D (rL [(22, osl 3 1 W (List.replicate (w64 (e * l)).toNat (0 : Int)).length ((w64 (e * l)).toNat) ((y.set (w64 ((w64 ((w64 (Int.tdiv (w64 (Int.tdiv d u)) (w64 (Int.tdiv A l)))) * e)) + (w64 (Int.tdiv (Int.tmod d u) (w64 (Int.tdiv B e)))))).toNat (w64 ((at' y (w64 ((w64 ((w64 (Int.tdiv (w64 (Int.tdiv d u)) (w64 (Int.tdiv A l)))) * e)) + (w64 (Int.tdiv (Int.tmod d u) (w64 (Int.tdiv B e))))))) + (at' C d)))).flatMap e64))] (osl 3 1 W (List.replicate (w64 (e * l)).toNat (0 : Int)).length ((w64 (e * l)).toNat) (y.flatMap e64)) L :: blk b3 26 (cL0 u N G C.length E) :: blk b1 56 (cL4 B A e l M H.length K Q O) :: F) w ∧ (L 22 = true → L 17 = true) ∧ (L 22 = true → L 18 = true) ∧ (L 22 = true → L 21 = true)) ⟨az, iR, (frL_ff _).symm, hs.drew, (fun h => by cases h), (fun h => by cases h), (fun h => by cases h)⟩ ⟨?_, ?_, ?_, ?_, ?_, ?_, ?_, ?_, ?_, ?_, ?_, ?_, ?_, ?_, ?_, ?_, ?_, ?_, ?_, ?_, ?_, ?_, ?_, trivial⟩ ?_
     all_goals clear hs
     · rintro L f w _ hL ⟨D, x, rfl, hs, t, s, q⟩
       refine mS U ?_
       exact oN ⟨rfl, rfl, D, x, fS rfl rfl, hs, t, s, q⟩
     · rintro L f w _ hL ⟨D, x, rfl, hs, t, s, q⟩
       refine mI rfl ?_
       exact oN ⟨rfl, rfl, D, x, fS rfl rfl, hs, t, s, q⟩
     · rintro L f w _ hL ⟨D, x, rfl, hs, t, s, q⟩
       refine oF (b := b3) (o := 0) fl26_0 V ?_
       exact oN ⟨rfl, rfl, D, x, fS rfl rfl, hs, t, s, q⟩
     · rintro L f w ⟨ag, _⟩ hL ⟨D, x, rfl, hs, t, s, q⟩
       refine ld1 (k := 1) hs rfl (fG rfl ag) ty3 rfl ?_
       exact oN ⟨rfl, rfl, D, x, fS rfl rfl, hs, t, s, q⟩
     · rintro L f w ⟨ah, af, _⟩ hL ⟨D, x, rfl, hs, t, s, q⟩
       refine oV (x_quo (fG rfl ah) (fG rfl af) aZ) rfl ?_
       exact oN ⟨rfl, rfl, D, x, fS rfl rfl, hs, t, s, q⟩
     · rintro L f w _ hL ⟨D, x, rfl, hs, t, s, q⟩
       refine mI ai ?_
       exact oN ⟨rfl, rfl, D, x, fS rfl rfl, hs, t, s, q⟩
     · rintro L f w ⟨ay, ax, _⟩ hL ⟨D, x, rfl, hs, t, s, q⟩
       refine oV (x_quo (fG rfl ay) (fG rfl ax) aY) rfl ?_
       exact oN ⟨rfl, rfl, D, x, fS rfl rfl, hs, t, s, q⟩
     · rintro L f w _ hL ⟨D, x, rfl, hs, t, s, q⟩
       refine oF (b := b1) (o := 0) fl56_2 al ?_
       exact oN ⟨rfl, rfl, D, x, fS rfl rfl, hs, t, s, q⟩
     · rintro L f w ⟨av, _⟩ hL ⟨D, x, rfl, hs, t, s, q⟩
       refine ld1 (k := 2) hs rfl (fG rfl av) ty3 rfl ?_
       exact oN ⟨rfl, rfl, D, x, fS rfl rfl, hs, t, s, q⟩
     · rintro L f w ⟨aw, au, _⟩ hL ⟨D, x, rfl, hs, t, s, q⟩
       refine oV (x_mul (fG rfl aw) (fG rfl au)) rfl ?_
       exact oN ⟨rfl, rfl, D, x, fS rfl rfl, hs, t, s, q⟩
     · rintro L f w _ hL ⟨D, x, rfl, hs, t, s, q⟩
       refine mI rfl ?_
       exact oN ⟨rfl, rfl, D, x, fS rfl rfl, hs, t, s, q⟩
     · rintro L f w _ hL ⟨D, x, rfl, hs, t, s, q⟩
       refine oF (b := b3) (o := 0) fl26_0 V ?_
       exact oN ⟨rfl, rfl, D, x, fS rfl rfl, hs, t, s, q⟩
     · rintro L f w ⟨aI, _⟩ hL ⟨D, x, rfl, hs, t, s, q⟩
       refine ld1 (k := 1) hs rfl (fG rfl aI) ty3 rfl ?_
       exact oN ⟨rfl, rfl, D, x, fS rfl rfl, hs, t, s, q⟩
     · rintro L f w ⟨aq, aH, _⟩ hL ⟨D, x, rfl, hs, t, s, q⟩
       refine oV (x_rem (fG rfl aq) (fG rfl aH) aX) rfl ?_
       exact oN ⟨rfl, rfl, D, x, fS rfl rfl, hs, t, s, q⟩
     · rintro L f w _ hL ⟨D, x, rfl, hs, t, s, q⟩
       refine mI aj ?_
       exact oN ⟨rfl, rfl, D, x, fS rfl rfl, hs, t, s, q⟩
     · rintro L f w ⟨aG, aF, _⟩ hL ⟨D, x, rfl, hs, t, s, q⟩
       refine oV (x_quo (fG rfl aG) (fG rfl aF) aW) rfl ?_
       exact oN ⟨rfl, rfl, D, x, fS rfl rfl, hs, t, s, q⟩
     · rintro L f w ⟨aC, aE, _⟩ hL ⟨D, x, rfl, hs, t, s, q⟩
       refine oV (x_add (fG rfl aC) (fG rfl aE)) rfl ?_
       exact oN ⟨rfl, rfl, D, x, fS rfl rfl, hs, t, s, q⟩
     · rintro L f w ⟨ac, ap, _⟩ hL ⟨D, x, rfl, hs, t, s, q⟩
       replace hs := hs.eqv (k := 0) rfl ((rL_f (show L 22 = false from pF t hL) (rL_n)))
       have a9 := osl_n (k := 0) hs rfl (fun _ => rfl) (by decide)
       refine oI (i := (w64 ((w64 ((w64 (Int.tdiv (w64 (Int.tdiv d u)) (w64 (Int.tdiv A l)))) * e)) + (w64 (Int.tdiv (Int.tmod d u) (w64 (Int.tdiv B e))))))) sl24 ty3 (fG rfl ac) (fG rfl ap) aa.1 (by have := aa; omega) (osl_some hs (k := 0) rfl (by have := aa; omega)) ?_
       replace hs := hs.eqv (k := 0) rfl (Eq.symm (a := rL [(22, osl 3 1 W (List.replicate (w64 (e * l)).toNat (0 : Int)).length ((w64 (e * l)).toNat) ((y.set (w64 ((w64 ((w64 (Int.tdiv (w64 (Int.tdiv d u)) (w64 (Int.tdiv A l)))) * e)) + (w64 (Int.tdiv (Int.tmod d u) (w64 (Int.tdiv B e)))))).toNat (w64 ((at' y (w64 ((w64 ((w64 (Int.tdiv (w64 (Int.tdiv d u)) (w64 (Int.tdiv A l)))) * e)) + (w64 (Int.tdiv (Int.tmod d u) (w64 (Int.tdiv B e))))))) + (at' C d)))).flatMap e64))] (osl 3 1 W (List.replicate (w64 (e * l)).toNat (0 : Int)).length ((w64 (e * l)).toNat) (y.flatMap e64)) (setL L 17)) (((rL_f (L := setL L 17) (show L 22 = false from pF t hL) (rL_n)))))
       exact oN ⟨rfl, rfl, D, x, fS rfl rfl, hs, (fun _ => rfl), s, q⟩
     · rintro L f w ⟨ao, _⟩ hL ⟨D, x, rfl, hs, t, s, q⟩
       replace hs := hs.eqv (k := 0) rfl ((rL_f (show L 22 = false from pF s hL) (rL_n)))
       refine ow_loadO (k := 0) (p := (w64 ((w64 ((w64 (Int.tdiv (w64 (Int.tdiv d u)) (w64 (Int.tdiv A l)))) * e)) + (w64 (Int.tdiv (Int.tmod d u) (w64 (Int.tdiv B e)))))).toNat * 1) (vs := [iN (at' y (w64 ((w64 ((w64 (Int.tdiv (w64 (Int.tdiv d u)) (w64 (Int.tdiv A l)))) * e)) + (w64 (Int.tdiv (Int.tmod d u) (w64 (Int.tdiv B e)))))))]) (v := iN (at' y (w64 ((w64 ((w64 (Int.tdiv (w64 (Int.tdiv d u)) (w64 (Int.tdiv A l)))) * e)) + (w64 (Int.tdiv (Int.tmod d u) (w64 (Int.tdiv B e)))))))) hs rfl (fG rfl ao) ty3 (flat_at (enc := e64) (sz := 1) (fun _ => rfl) y (w64 ((w64 ((w64 (Int.tdiv (w64 (Int.tdiv d u)) (w64 (Int.tdiv A l)))) * e)) + (w64 (Int.tdiv (Int.tmod d u) (w64 (Int.tdiv B e)))))) aa.1 aa.2 0 1 (by decide)) rfl rfl ?_
       replace hs := hs.eqv (k := 0) rfl (Eq.symm (a := rL [(22, osl 3 1 W (List.replicate (w64 (e * l)).toNat (0 : Int)).length ((w64 (e * l)).toNat) ((y.set (w64 ((w64 ((w64 (Int.tdiv (w64 (Int.tdiv d u)) (w64 (Int.tdiv A l)))) * e)) + (w64 (Int.tdiv (Int.tmod d u) (w64 (Int.tdiv B e)))))).toNat (w64 ((at' y (w64 ((w64 ((w64 (Int.tdiv (w64 (Int.tdiv d u)) (w64 (Int.tdiv A l)))) * e)) + (w64 (Int.tdiv (Int.tmod d u) (w64 (Int.tdiv B e))))))) + (at' C d)))).flatMap e64))] (osl 3 1 W (List.replicate (w64 (e * l)).toNat (0 : Int)).length ((w64 (e * l)).toNat) (y.flatMap e64)) (setL L 18)) (((rL_f (L := setL L 18) (show L 22 = false from pF s hL) (rL_n)))))
       exact oN ⟨rfl, rfl, D, x, fS rfl rfl, hs, t, (fun _ => rfl), q⟩
     · rintro L f w _ hL ⟨D, x, rfl, hs, t, s, q⟩
       refine mI rfl ?_
       exact oN ⟨rfl, rfl, D, x, fS rfl rfl, hs, t, s, q⟩
     · rintro L f w ⟨an, aD, _⟩ hL ⟨D, x, rfl, hs, t, s, q⟩
       refine oV (x_add (fG rfl an) (fG rfl aD)) rfl ?_
       exact oN ⟨rfl, rfl, D, x, fS rfl rfl, hs, t, s, q⟩
     · rintro L f w ⟨ac, ap, _, ah, ag, af, ay, ax, aw, av, au, aC, aq, aI, aH, aG, aF, aE, _, ao, an, aD, aM, _⟩ hL ⟨D, x, rfl, hs, t, s, q⟩
       replace hs := hs.eqv (k := 0) rfl ((rL_f (show L 22 = false from pF q hL) (rL_n)))
       have a8 := osl_n (k := 0) hs rfl (fun _ => rfl) (by decide)
       refine oI (i := (w64 ((w64 ((w64 (Int.tdiv (w64 (Int.tdiv d u)) (w64 (Int.tdiv A l)))) * e)) + (w64 (Int.tdiv (Int.tmod d u) (w64 (Int.tdiv B e))))))) sl24 ty3 (fG rfl ac) (fG rfl ap) Z.1 (by have := Z; omega) (osl_some hs (k := 0) rfl (by have := Z; omega)) ?_
       replace hs := hs.eqv (k := 0) rfl (Eq.symm (a := rL [(22, osl 3 1 W (List.replicate (w64 (e * l)).toNat (0 : Int)).length ((w64 (e * l)).toNat) ((y.set (w64 ((w64 ((w64 (Int.tdiv (w64 (Int.tdiv d u)) (w64 (Int.tdiv A l)))) * e)) + (w64 (Int.tdiv (Int.tmod d u) (w64 (Int.tdiv B e)))))).toNat (w64 ((at' y (w64 ((w64 ((w64 (Int.tdiv (w64 (Int.tdiv d u)) (w64 (Int.tdiv A l)))) * e)) + (w64 (Int.tdiv (Int.tmod d u) (w64 (Int.tdiv B e))))))) + (at' C d)))).flatMap e64))] (osl 3 1 W (List.replicate (w64 (e * l)).toNat (0 : Int)).length ((w64 (e * l)).toNat) (y.flatMap e64)) (setL L 21)) (((rL_f (L := setL L 21) (show L 22 = false from pF q hL) (rL_n)))))
       exact oN ⟨rfl, rfl, D, x, fS rfl rfl, hs, t, s, (fun _ => rfl)⟩
     · rintro L f w ⟨aL, aM, ac, ah, ag, af, ay, ax, aw, av, au, aC, aq, aI, aH, aG, aF, aE, ap, ao, an, aD, _, _⟩ hL ⟨D, x, rfl, hs, t, s, q⟩
       replace hs := hs.eqv (k := 0) rfl ((rL_f hL (rL_n)))
       refine ow_storeT (k := 0) (enc := e64) (xx := w64 ((at' y (w64 ((w64 ((w64 (Int.tdiv (w64 (Int.tdiv d u)) (w64 (Int.tdiv A l)))) * e)) + (w64 (Int.tdiv (Int.tmod d u) (w64 (Int.tdiv B e))))))) + (at' C d))) (i := (w64 ((w64 ((w64 (Int.tdiv (w64 (Int.tdiv d u)) (w64 (Int.tdiv A l)))) * e)) + (w64 (Int.tdiv (Int.tmod d u) (w64 (Int.tdiv B e))))))) (m := (List.replicate (w64 (e * l)).toNat (0 : Int)).length) (vs := [iN (w64 ((at' y (w64 ((w64 ((w64 (Int.tdiv (w64 (Int.tdiv d u)) (w64 (Int.tdiv A l)))) * e)) + (w64 (Int.tdiv (Int.tmod d u) (w64 (Int.tdiv B e))))))) + (at' C d)))]) hs rfl (fG rfl aL) (fG rfl aM) ty3 rfl rfl rfl (fun _ => rfl) (by decide) Z.1 Z.2 ?_
       clear hs; intro w hs
       exact oN ⟨rfl, rfl, D, x, frL_no rfl, hs, (fun _ => ao), (fun _ => an), (fun _ => aL)⟩
     rintro L f w hall ⟨a7, aP, rfl, hs, _, _, _⟩
     rw [frL_tt _ rfl hall]
     replace hs := hs.eqv (k := 0) rfl (rL_t (hall 22 (nLe rfl)))
     refine blockK_n <| sK <| cR <| oV (x_add R rfl) rfl <| mI rfl <| oN ?_
     exact lN ⟨k, Nat.lt_succ_self k, w64 (d + 1), y.set (w64 ((w64 ((w64 (Int.tdiv (w64 (Int.tdiv d u)) (w64 (Int.tdiv A l)))) * e)) + (w64 (Int.tdiv (Int.tmod d u) (w64 (Int.tdiv B e)))))).toNat (w64 ((at' y (w64 ((w64 ((w64 (Int.tdiv (w64 (Int.tdiv d u)) (w64 (Int.tdiv A l)))) * e)) + (w64 (Int.tdiv (Int.tmod d u) (w64 (Int.tdiv B e))))))) + (at' C d))), a7, rfl, (ae.trans aP), hm, hs, al, V, ak, U, aj, ai, Y, X, rfl⟩
   rw [if_neg am] at hm
   refine cIf rfl (dF am) <| cw_exit <| seqK_x <| loopK_x <| blockK_hit ?_
   obtain rfl := oJ hm
   refine jN ⟨az, rfl, ae, hs, ak, U⟩
 clear hm hs
 rintro f ds w ⟨aR, rfl, aO, hs, aT, aA⟩
 replace hm := aU
 refine cQ <| cR <| mS aA <| asS rfl <| oN <| sK <| cw_ret ?_
 have aK := osl_n (k := 0) hs rfl (fun _ => rfl) (by decide)
 replace hs := hs.eqv (k := 0) rfl (by rw [aK])
 refine rK (rs := [.tmp 4]) (vs := [.slice W ar.length ((w64 (e * l)).toNat)]) (.inr rfl) rfl ⟨(slen (oa := W) (m := (List.replicate (w64 (e * l)).toNat (0 : Int)).length) (m' := ar.length) (c := (w64 (e * l)).toNat) rfl aK), trivial⟩ ?_
 obtain rfl := oJ hm
 obtain ⟨a5, aN, a1, hs⟩ := hs.freezeO
 replace hs := hs.erase 0
 replace hs := hs.erase 0
 exact ⟨a5, W, (w64 (e * l)).toNat, ((aB.trans aO).trans aN), hs, rfl, a1⟩
def f25_m (q : Int) (p : Int) (m : Int) (l : Int) (f : List (List (List Int) × List Int)) (e : Int) (d : Int) (c : Int) (a : Int) : Option Int :=
  (if d ≤ c then some 1 else (if a ≤ e then some 2 else some 3))
theorem f25_ok (q : Int) (p : Int) (m : Int) (l : Int) (f : List (List (List Int) × List Int)) (e : Int) (d : Int) (c : Int) (a : Int) {r : Int} (hm : f25_m q p m l f e d c a = some r) {j : Option Addr} {h : Nat} {I : Im} {F : List HP} {w : World} (hs : Sat I (F) w) (u : SN59 I j f.length h f) :
    CV P 25 [.agg (cL4 q p m l j f.length h e d).toArray, .agg #[iN c, iN a]] w fun v w' => ∃ (J : Im), Im.le I J ∧ Sat J (F) w' ∧ v = .int .u8 r := by
 unfold f25_m at hm
 refine cv_of (n := 17) Proofs.Tryz.func25 rfl rfl (nLe rfl) <| cQ <| cR <| oB (v := .agg (cL4 q p m l j f.length h e d).toArray) (cs := (cL4 q p m l j f.length h e d)) hs rfl rfl ?_
 clear hs; intro y w hs
 refine oB (v := .agg #[iN c, iN a]) (cs := [iN c, iN a]) hs rfl rfl ?_
 clear hs; intro x w hs
 refine asI rfl <| oN <| sQR <| cw_block <| cQ <| cR <| ow_indexA (b := x) (o := 0) (i := 0) ar99 ty3 rfl rfl (by decide) (by decide) <| ld1 (k := 0) hs rfl rfl ty3 rfl <| oF (b := y) (o := 0) fl56_6 rfl <| ld1 (k := 1) hs rfl rfl ty3 rfl <| oV (x_geq rfl rfl) rfl ?_
 refine asB rfl <| oN <| sK ?_
 by_cases t : d ≤ c
 · rw [if_pos t] at hm
   refine cIt rfl (dT t) <| cQ <| cR <| asI rfl <| oN <| sK <| cw_ret <| blockK_r <| seqK_r <| rK (rs := [.tmp 4]) (vs := [.int .u8 1]) (.inr rfl) rfl ⟨rfl, trivial⟩ ?_
   obtain rfl := oJ hm
   replace hs := hs.erase 0
   replace hs := hs.erase 0
   exact ⟨I, iR, hs, rfl⟩
 rw [if_neg t] at hm
 refine cIf rfl (dF t) <| cQ <| cR <| ow_indexA (b := x) (o := 0) (i := 1) ar99 ty3 rfl rfl (by decide) (by decide) <| ld1 (k := 0) hs rfl rfl ty3 rfl <| oF (b := y) (o := 0) fl56_5 rfl <| ld1 (k := 1) hs rfl rfl ty3 rfl <| oV (x_leq rfl rfl) rfl <| asB rfl <| oN <| sK ?_
 by_cases s : a ≤ e
 · rw [if_pos s] at hm
   refine cIt rfl (dT s) <| cQ <| cR <| asI rfl <| oN <| sK <| cw_ret <| blockK_r <| seqK_r <| rK (rs := [.tmp 4]) (vs := [.int .u8 2]) (.inr rfl) rfl ⟨rfl, trivial⟩ ?_
   obtain rfl := oJ hm
   replace hs := hs.erase 0
   replace hs := hs.erase 0
   exact ⟨I, iR, hs, rfl⟩
 rw [if_neg s] at hm
 refine cIf rfl (dF s) <| cw_skip <| blockK_n <| sQR <| cR <| asI rfl <| oN <| sK <| cw_ret <| rK (rs := [.tmp 4]) (vs := [.int .u8 3]) (.inr rfl) rfl ⟨rfl, trivial⟩ ?_
 obtain rfl := oJ hm
 replace hs := hs.erase 0
 replace hs := hs.erase 0
 exact ⟨I, iR, hs, rfl⟩
end Go.HL.Tz
