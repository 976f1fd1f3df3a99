/- The walks of some functions, printed by a program of ours (gox). -/
import Derived.Test.YtllfmfoahloldaaGreatZB
import Derived.Test.YtllfmfoahloldaaGreatHL25
set_option linter.unusedVariables false
set_option linter.unusedSimpArgs false
set_option maxRecDepth 100000
set_option maxHeartbeats 400000
namespace Go.HL.Tz
open Go.HL
attribute [local irreducible] OW CW CV
theorem sl24 : SliceT P 24 3 := (by kernel_rfl : P.underlying 24 = some (.slice 3))
theorem fl26_0 : FldT P 26 0 0 := ⟨by kernel_rfl⟩
theorem fl26_1 : FldT P 26 1 1 := ⟨by kernel_rfl⟩
theorem en86 : Proofs.Enters P 86 := Proofs.enters_of Proofs.Tryz.func86 (by kernel_rfl) rfl
theorem fl26_2 : FldT P 26 2 2 := ⟨by kernel_rfl⟩
theorem ty24 : TyC P 24 false [.slice none 0 0] := ⟨by kernel_rfl, by kernel_rfl, (fun _ => rfl), by kernel_rfl⟩
theorem ty26 : TyC P 26 true [iN 0, iN 0, .slice none 0 0] := ⟨by kernel_rfl, by kernel_rfl, (fun h => by cases h), by kernel_rfl⟩
theorem en85 : Proofs.Enters P 85 := Proofs.enters_of Proofs.Tryz.func85 (by kernel_rfl) rfl
theorem fl210_2 : FldT P 210 2 2 := ⟨by kernel_rfl⟩
theorem fl210_0 : FldT P 210 0 0 := ⟨by kernel_rfl⟩
theorem en89 : Proofs.Enters P 89 := Proofs.enters_of Proofs.Tryz.func89 (by kernel_rfl) rfl
theorem fl210_1 : FldT P 210 1 1 := ⟨by kernel_rfl⟩
theorem st26 : StrT P 26 [(0, 1), (1, 1), (2, 1)] := ⟨by kernel_rfl⟩
theorem fl35_0 : FldT P 35 0 0 := ⟨by kernel_rfl⟩
theorem fl35_1 : FldT P 35 1 1 := ⟨by kernel_rfl⟩
theorem fl35_3 : FldT P 35 3 3 := ⟨by kernel_rfl⟩
theorem fl35_4 : FldT P 35 4 4 := ⟨by kernel_rfl⟩
theorem fl35_2 : FldT P 35 2 2 := ⟨by kernel_rfl⟩
theorem el3 : ElT P 3 [iN 0] 8 := ⟨by kernel_rfl⟩
theorem mixed : P.follows .mixedOrders = true := by kernel_rfl
theorem ty77 : TyC P 77 false [.nilFunc] := ⟨by kernel_rfl, by kernel_rfl, (fun _ => rfl), by kernel_rfl⟩
theorem en91 : Proofs.Enters P 91 := Proofs.enters_of Proofs.Tryz.func91 (by kernel_rfl) rfl
theorem en90 : Proofs.Enters P 90 := Proofs.enters_of Proofs.Tryz.func90 (by kernel_rfl) rfl
theorem en88 : Proofs.Enters P 88 := Proofs.enters_of Proofs.Tryz.func88 (by kernel_rfl) rfl
theorem en122 : Proofs.Enters P 122 := Proofs.enters_of Proofs.Tryz.func122 (by kernel_rfl) rfl
theorem en87 : Proofs.Enters P 87 := Proofs.enters_of Proofs.Tryz.func87 (by kernel_rfl) rfl
def f86_l0 (C : Int) (B : Int) (e : List Int) : Nat → Int → Option (Sum Unit Bool)
  | 0, _ => none
  | k + 1, a => (if a < (e.length : Int) then (if 0 ≤ a ∧ a < (e.length : Int) then ((if (at' e a) < C then some true else some (decide (B < (at' e a)))).bind fun O => (if O = true then some (Sum.inr false) else (f86_l0 C B e k (w64 (a + 1))))) else none) else some (Sum.inl ()))
def f86_m (C : Int) (B : Int) (e : List Int) : Option Bool :=
  (lb (S := Unit) (f86_l0 C B e FUEL 0) id (fun U => some true))
theorem f86_ok (C : Int) (B : Int) (e : List Int) {r : Bool} (hm : f86_m C B e = some r) {Q : Option Addr} {N : Nat} {I : Im} {F : List HP} {w : World} (hs : Sat I (F) w) (M : Rs I 1 Q e.length N (e.flatMap e64)) :
    CV P 86 (cL0 C B Q e.length N) w fun v w' => ∃ (J : Im), Im.le I J ∧ Sat J (F) w' ∧ v = .bool r := by
 unfold f86_m at hm
 refine cv_of (n := 24) Proofs.Tryz.func86 rfl rfl (nLe rfl) <| cQ <| cR <| asB rfl <| oN <| sK ?_
 obtain ⟨W, Y, T⟩ := lb_some hm
 replace hm := Y; clear Y
 refine cJ (fun f ds w => ∃ (U : Unit) (R : Im), ds = [] ∧ Im.le I R ∧ W = Sum.inl U ∧ Sat R (F) w ∧ f 6 = .bool false) ?_ ?_
 · refine cQ <| cR <| mS rfl <| oV (x_len sl24 rfl) rfl <| mI rfl <| oN <| sK <| cw_block ?_
   refine cL (S := fun k f ds w => ∃ (a : Int), ∃ (u : Im), ds = [] ∧ Im.le I u ∧ f86_l0 C B e k a = some W ∧ Sat u (F) w ∧ f 0 = iN C ∧ f 1 = iN B ∧ f 6 = .bool false ∧ f 9 = .slice Q e.length N ∧ f 10 = iN (e.length : Int) ∧ f 11 = iN a) ?_ (k := FUEL) ⟨0, I, rfl, iR, hm, hs, rfl, rfl, rfl, rfl, rfl, rfl⟩
   clear hm hs
   rintro k f ds w ⟨a, u, rfl, s, hm, hs, q, o, m, l, h, d⟩
   rcases k with _ | k
   · unfold f86_l0 at hm; cases hm
   unfold f86_l0 at hm
   refine cQ <| cR <| oV (x_lss d h) rfl <| oN <| sQR ?_
   by_cases y : a < (e.length : Int)
   · rw [if_pos y] at hm
     refine cIt rfl (dT y) <| cw_skip <| sQR <| cw_block <| cQ <| cR ?_
     have t := (iS hm).1
     replace hm := (iS hm).2
     replace M := M.mono s
     refine oI (i := a) sl24 ty3 l d t.1 t.2 (Rs.some M (by have := t; omega)) <| oLR (p := a.toNat * 1) (vs := [iN (at' e a)]) (v := iN (at' e a)) hs M rfl ty3 (flat_at (enc := e64) (sz := 1) (fun _ => rfl) e a t.1 t.2 0 1 (by decide)) rfl rfl <| asI rfl <| oN <| sQR <| cR <| mI rfl <| mI q <| oV (x_lss rfl rfl) rfl <| mB rfl ?_
     obtain ⟨O, j, hm⟩ := bS hm
     refine oJN 4 (fun f ds w => ∃ (L : Im), ds = [] ∧ Im.le u L ∧ Sat L (F) w ∧ f 22 = .bool O ∧ f 0 = iN C ∧ f 1 = iN B ∧ f 6 = .bool false ∧ f 9 = .slice Q e.length N ∧ f 10 = iN (e.length : Int) ∧ f 11 = iN a) ?_ ?_
     · by_cases c : (at' e a) < C
       · rw [if_pos c] at j
         refine oO (b := true) (yO rfl rfl (dT c)) rfl <| oO (b := true) (yO rfl rfl (dT c)) rfl <| oO (b := true) (yO rfl rfl (dT c)) rfl <| oV (xPt (v := .bool true) ((rfl : ev _ _ _ = _).trans (congrArg Value.bool (dT c))) rfl) rfl <| oN ?_
         obtain rfl := oJ j
         exact ⟨u, rfl, iR, hs, rfl, q, o, m, l, h, d⟩
       rw [if_neg c] at j
       refine oG (yO rfl rfl (dF c)) <| mI rfl <| oG (yO rfl rfl (dF c)) <| mI o <| oG (yO rfl rfl (dF c)) <| oV (x_gtr rfl rfl) rfl <| oV (xPf (v := .bool (decide (B < (at' e a)))) ((rfl : ev _ _ _ = _).trans (congrArg Value.bool (dF c))) rfl) rfl <| oN ?_
       obtain rfl := oJ j
       exact ⟨u, rfl, iR, hs, rfl, q, o, m, l, h, d⟩
     clear j hs
     rintro f ds w ⟨L, rfl, K, hs, htbb44, H, G, E, D, A, z⟩
     refine oN <| sK ?_
     by_cases x : O = true
     · rw [if_pos x] at hm
       refine cIt htbb44 x <| cQ <| cR <| asB rfl <| oN <| sK <| cw_ret <| blockK_r <| seqK_r <| loopK_r <| blockK_r <| joinK_r ?_
       refine rK (rs := [.tmp 6]) (vs := [.bool false]) (.inr rfl) rfl ⟨rfl, trivial⟩ ?_
       replace hm := lret hm T
       obtain rfl := oJ hm
       exact ⟨L, (s.trans K), hs, rfl⟩
     rw [if_neg x] at hm
     refine cIf htbb44 (bF x) <| cw_skip <| blockK_n <| sK <| cR <| oV (x_add z rfl) rfl <| mI rfl <| oN ?_
     exact lN ⟨k, Nat.lt_succ_self k, w64 (a + 1), L, rfl, (s.trans K), hm, hs, H, G, E, D, A, rfl⟩
   rw [if_neg y] at hm
   refine cIf rfl (dF y) <| cw_exit <| seqK_x <| loopK_x <| blockK_hit ?_
   obtain rfl := oJ hm
   refine jN ⟨(), u, rfl, s, rfl, hs, m⟩
 clear hm hs
 rintro f ds w ⟨U, R, rfl, V, rfl, hs, X⟩
 replace hm := lexit rfl T
 refine cQ <| cR <| asB rfl <| oN <| sK <| cw_ret <| rK (rs := [.tmp 6]) (vs := [.bool true]) (.inr rfl) rfl ⟨rfl, trivial⟩ ?_
 obtain rfl := oJ hm
 exact ⟨R, V, hs, rfl⟩
def f85_m (d : Int) (c : Int) (e : List Int) : Option Bool :=
  ((f86_m 1 16 [d, c]).bind fun M => ((if M = true then some (decide ((e.length : Int) = (w64 (d * c)))) else some false).bind fun z => ((if z = true then ((f86_m (-2147483648) 2147483648 e).bind fun D => some D) else some false).bind fun y => some y)))
theorem f85_ok (d : Int) (c : Int) (e : List Int) {r : Bool} (hm : f85_m d c e = some r) {l : Option Addr} {j : Nat} {I : Im} {F : List HP} {w : World} (hs : Sat I (F) w) (q : Rs I 1 l e.length j (e.flatMap e64)) :
    CV P 85 [.agg (cL0 d c l e.length j).toArray] w fun v w' => ∃ (J : Im), Im.le I J ∧ Sat J (F) w' ∧ v = .bool r := by
 unfold f85_m at hm
 refine cv_of (n := 25) Proofs.Tryz.func85 rfl rfl (nLe rfl) <| cQ <| cR <| oB (v := .agg (cL0 d c l e.length j).toArray) (cs := (cL0 d c l e.length j)) hs rfl rfl ?_
 clear hs; intro A w hs
 refine asB rfl <| oN <| sQR <| cR <| oF (b := A) (o := 0) fl26_0 rfl <| ld1 (k := 0) hs rfl rfl ty3 rfl <| oF (b := A) (o := 0) fl26_1 rfl <| ld1 (k := 0) hs rfl rfl ty3 rfl <| ow_buildSlice (vp := [(0, iN d), (1, iN c)]) (cs := [iN d, iN c]) hs sl24 ty3 rfl ⟨rfl, rfl, rfl, rfl, trivial⟩ (by decide) rfl (by decide) ?_
 clear hs; intro R S w C hs H
 replace H : Rs S 1 R [d, c].length 2 ([d, c].flatMap e64) := H
 obtain ⟨M, N, hm⟩ := bS hm
 refine oC (fi := []) (vs := (cL0 1 16 R ([d, c].length) 2)) (ca := []) rfl ⟨rfl, rfl, rfl, trivial⟩ en86 (f86_ok _ _ _ N hs H) ?_
 clear hs; rintro _ w ⟨O, u, hs, rfl⟩
 refine mB rfl ?_
 obtain ⟨z, m, hm⟩ := bS hm
 refine oJN 10 (fun f ds w => ∃ (x : Im), ds = [] ∧ Im.le O x ∧ Sat x (blk A 26 (cL0 d c l e.length j) :: F) w ∧ f 19 = .bool z ∧ f 1 = pQ A 0 ∧ f 2 = .bool false) ?_ ?_
 · by_cases a : M = true
   · rw [if_pos a] at m
     refine oG (yO rfl rfl a) <| oF (b := A) (o := 0) fl26_2 rfl <| oG (yO rfl rfl a) <| ld1 (k := 0) hs rfl rfl ty24 rfl <| oG (yO rfl rfl a) <| oV (x_len sl24 rfl) rfl <| oG (yO rfl rfl a) <| oF (b := A) (o := 0) fl26_0 rfl <| oG (yO rfl rfl a) <| ld1 (k := 0) hs rfl rfl ty3 rfl <| oG (yO rfl rfl a) <| oF (b := A) (o := 0) fl26_1 rfl ?_
     refine oG (yO rfl rfl a) <| ld1 (k := 0) hs rfl rfl ty3 rfl <| oG (yO rfl rfl a) <| oV (x_mul rfl rfl) rfl <| oG (yO rfl rfl a) <| oV (x_eql rfl rfl) rfl <| oV (xPt (v := .bool (decide ((e.length : Int) = (w64 (d * c))))) ((rfl : ev _ _ _ = _).trans (congrArg Value.bool a)) rfl) rfl <| oN ?_
     obtain rfl := oJ m
     exact ⟨O, rfl, iR, hs, rfl, rfl, rfl⟩
   rw [if_neg a] at m
   refine oO (b := false) (yO rfl rfl (bF a)) rfl <| oO (b := false) (yO rfl rfl (bF a)) rfl <| oO (b := false) (yO rfl rfl (bF a)) rfl <| oO (b := false) (yO rfl rfl (bF a)) rfl <| oO (b := false) (yO rfl rfl (bF a)) rfl <| oO (b := false) (yO rfl rfl (bF a)) rfl <| oO (b := false) (yO rfl rfl (bF a)) rfl <| oO (b := false) (yO rfl rfl (bF a)) rfl <| oO (b := false) (yO rfl rfl (bF a)) rfl <| oV (xPf (v := .bool false) ((rfl : ev _ _ _ = _).trans (congrArg Value.bool (bF a))) rfl) rfl <| oN ?_
   obtain rfl := oJ m
   exact ⟨O, rfl, iR, hs, rfl, rfl, rfl⟩
 clear m hs
 rintro f ds w ⟨x, rfl, t, hs, htbb12, s, p⟩
 refine mB htbb12 ?_
 obtain ⟨y, i, hm⟩ := bS hm
 refine oJN 4 (fun f ds w => ∃ (B : Im), ds = [] ∧ Im.le x B ∧ Sat B (blk A 26 (cL0 d c l e.length j) :: F) w ∧ f 24 = .bool y ∧ f 2 = .bool false) ?_ ?_
 · by_cases h : z = true
   · rw [if_pos h] at i
     refine oG (yO rfl rfl h) <| oF (b := A) (o := 0) fl26_2 s <| oG (yO rfl rfl h) <| ld1 (k := 0) hs rfl rfl ty24 rfl <| oG (yO rfl rfl h) ?_
     obtain ⟨D, L, i⟩ := bS i
     replace q := q.mono ((C.trans u).trans t)
     refine oC (fi := []) (vs := (cL0 (-2147483648) 2147483648 l e.length j)) (ca := []) rfl ⟨rfl, rfl, rfl, trivial⟩ en86 (f86_ok _ _ _ L hs q) ?_
     clear hs; rintro _ w ⟨Q, E, hs, rfl⟩
     refine oV (xPt (v := .bool D) ((rfl : ev _ _ _ = _).trans (congrArg Value.bool h)) rfl) rfl <| oN ?_
     obtain rfl := oJ i
     exact ⟨Q, rfl, E, hs, rfl, p⟩
   rw [if_neg h] at i
   refine oO (b := false) (yO rfl rfl (bF h)) rfl <| oO (b := false) (yO rfl rfl (bF h)) rfl <| oO (b := false) (yO rfl rfl (bF h)) rfl <| oV (xPf (v := .bool false) ((rfl : ev _ _ _ = _).trans (congrArg Value.bool (bF h))) rfl) rfl <| oN ?_
   obtain rfl := oJ i
   exact ⟨x, rfl, iR, hs, rfl, p⟩
 clear i hs
 rintro f ds w ⟨B, rfl, G, hs, htbb16, K⟩
 refine asB htbb16 <| oN <| sK <| cw_ret <| rK (rs := [.tmp 2]) (vs := [.bool y]) (.inr rfl) rfl ⟨rfl, trivial⟩ ?_
 obtain rfl := oJ hm
 replace hs := hs.erase 0
 exact ⟨B, (((C.trans u).trans t).trans G), hs, rfl⟩
def f74_m (f : Int) (e : Int) (a : List Int) : Option Int :=
  ((f85_m f e a).bind fun l => (if (!l) = true then some 20 else some 0))
theorem f74_ok (f : Int) (e : Int) (a : List Int) {r : Int} (hm : f74_m f e a = some r) {d : Option Addr} {c : Nat} {I : Im} {F : List HP} {w : World} (hs : Sat I (F) w) (j : Rs I 1 d a.length c (a.flatMap e64)) :
    CV P 74 [.agg (cL0 f e d a.length c).toArray] w fun v w' => ∃ (J : Im), Im.le I J ∧ Sat J (F) w' ∧ v = iN r := by
 unfold f74_m at hm
 refine cv_of (n := 6) Proofs.Tryz.func74 rfl rfl (nLe rfl) <| cQ <| cR <| oB (v := .agg (cL0 f e d a.length c).toArray) (cs := (cL0 f e d a.length c)) hs rfl rfl ?_
 clear hs; intro p w hs
 refine asI rfl <| oN <| sQR <| cQ <| cR <| oL (k := 0) (vs := (cL0 f e d a.length c)) (v := .agg (cL0 f e d a.length c).toArray) hs rfl rfl ty26 rfl rfl rfl ?_
 obtain ⟨l, m, hm⟩ := bS hm
 refine oC (fi := []) (vs := [.agg (cL0 f e d a.length c).toArray]) (ca := []) rfl ⟨rfl, trivial⟩ en85 (f85_ok _ _ _ m hs j) ?_
 clear hs; rintro _ w ⟨o, i, hs, rfl⟩
 refine oV (x_not (b := l) rfl) rfl <| oN <| sK ?_
 by_cases h : (!l) = true
 · rw [if_pos h] at hm
   refine cIt rfl h <| cQ <| cR <| asI rfl <| oN <| sK <| cw_ret <| seqK_r <| rK (rs := [.tmp 2]) (vs := [iN 20]) (.inr rfl) rfl ⟨rfl, trivial⟩ ?_
   obtain rfl := oJ hm
   replace hs := hs.erase 0
   exact ⟨o, i, hs, rfl⟩
 rw [if_neg h] at hm
 refine cIf rfl (bF h) <| cw_skip <| sQR <| cR <| asI rfl <| oN <| sK <| cw_ret <| rK (rs := [.tmp 2]) (vs := [iN 0]) (.inr rfl) rfl ⟨rfl, trivial⟩ ?_
 obtain rfl := oJ hm
 replace hs := hs.erase 0
 exact ⟨o, i, hs, rfl⟩
def f89_m (d : Int) (e : Int) (c : Int) : Option Int :=
  some (max e (min d c))
theorem f89_ok (d : Int) (e : Int) (c : Int) {r : Int} (hm : f89_m d e c = some r)  {I : Im} {F : List HP} {w : World} (hs : Sat I (F) w)  :
    CV P 89 (cL1 d e c) w fun v w' => ∃ (J : Im), Im.le I J ∧ Sat J (F) w' ∧ v = iN r := by
 unfold f89_m at hm
 refine cv_of (n := 12) Proofs.Tryz.func89 rfl rfl (nLe rfl) <| cQ <| cR <| asI rfl <| oN <| sQR <| cR <| mI rfl <| mI rfl <| mI rfl <| oV (x_min2 (k := .i64) (a := d) (b := c) rfl rfl) rfl ?_
 refine oV (x_max2 (k := .i64) (a := e) (b := (min d c)) rfl rfl) rfl <| asI rfl <| oN <| sK <| cw_ret <| rK (rs := [.tmp 6]) (vs := [iN (max e (min d c))]) (.inr rfl) rfl ⟨rfl, trivial⟩ ?_
 obtain rfl := oJ hm
 exact ⟨I, iR, hs, rfl⟩
def f90_m (b : Int) (a : Int) : Option Int :=
  (if a ≠ 0 then (if b < (w64 ((w64 (Int.tdiv b a)) * a)) then some (w64 ((w64 (Int.tdiv b a)) - 1)) else some (w64 (Int.tdiv b a))) else none)
theorem f90_ok (b : Int) (a : Int) {r : Int} (hm : f90_m b a = some r)  {I : Im} {F : List HP} {w : World} (hs : Sat I (F) w)  :
    CV P 90 [iN b, iN a] w fun v w' => ∃ (J : Im), Im.le I J ∧ Sat J (F) w' ∧ v = iN r := by
 unfold f90_m at hm
 refine cv_of (n := 17) Proofs.Tryz.func90 rfl rfl (nLe rfl) <| cQ <| cR <| asI rfl <| oN <| sQR <| cR <| mI rfl <| mI rfl ?_
 have d := (iS hm).1
 replace hm := (iS hm).2
 refine oV (x_quo rfl rfl d) rfl <| asI rfl <| oN <| sQR <| cQ <| cR <| mI rfl <| mI rfl <| oV (x_mul rfl rfl) rfl <| mI rfl <| oV (x_gtr rfl rfl) rfl ?_
 refine oN <| sK ?_
 by_cases c : b < (w64 ((w64 (Int.tdiv b a)) * a))
 · rw [if_pos c] at hm
   refine cIt rfl (dT c) <| cR <| mI rfl <| oV (x_sub rfl rfl) rfl <| asI rfl <| oN <| sQR <| cR <| mI rfl <| asI rfl <| oN ?_
   refine sK <| cw_ret <| rK (rs := [.tmp 4]) (vs := [iN (w64 ((w64 (Int.tdiv b a)) - 1))]) (.inr rfl) rfl ⟨rfl, trivial⟩ ?_
   obtain rfl := oJ hm
   exact ⟨I, iR, hs, rfl⟩
 rw [if_neg c] at hm
 refine cIf rfl (dF c) <| cw_skip <| sQR <| cR <| mI rfl <| asI rfl <| oN <| sK <| cw_ret <| rK (rs := [.tmp 4]) (vs := [iN (w64 (Int.tdiv b a))]) (.inr rfl) rfl ⟨rfl, trivial⟩ ?_
 obtain rfl := oJ hm
 exact ⟨I, iR, hs, rfl⟩
def f91_m (a : Int) (f : Int) (c : List Int) (j : Int) (h : Int) : Option Int :=
  (if 0 ≤ (w64 ((w64 (h * a)) + j)) ∧ (w64 ((w64 (h * a)) + j)) < (c.length : Int) then some (at' c (w64 ((w64 (h * a)) + j))) else none)
theorem f91_ok (a : Int) (f : Int) (c : List Int) (j : Int) (h : Int) {r : Int} (hm : f91_m a f c j h = some r) {e : Option Addr} {d : Nat} {I : Im} {F : List HP} {w : World} (hs : Sat I (F) w) (l : Rs I 1 e c.length d (c.flatMap e64)) :
    CV P 91 [.agg (cL0 a f e c.length d).toArray, iN j, iN h] w fun v w' => ∃ (J : Im), Im.le I J ∧ Sat J (F) w' ∧ v = iN r := by
 unfold f91_m at hm
 refine cv_of (n := 17) Proofs.Tryz.func91 rfl rfl (nLe rfl) <| cQ <| cR <| oB (v := .agg (cL0 a f e c.length d).toArray) (cs := (cL0 a f e c.length d)) hs rfl rfl ?_
 clear hs; intro q w hs
 refine asI rfl <| oN <| sQR <| cR <| oF (b := q) (o := 0) fl210_2 rfl <| ld1 (k := 0) hs rfl rfl ty24 rfl <| mI rfl <| oF (b := q) (o := 0) fl210_0 rfl <| ld1 (k := 0) hs rfl rfl ty3 rfl <| oV (x_mul rfl rfl) rfl <| mI rfl ?_
 refine oV (x_add rfl rfl) rfl ?_
 have m := (iS hm).1
 replace hm := (iS hm).2
 refine oI (i := (w64 ((w64 (h * a)) + j))) sl24 ty3 rfl rfl m.1 m.2 (Rs.some l (by have := m; omega)) <| oLR (p := (w64 ((w64 (h * a)) + j)).toNat * 1) (vs := [iN (at' c (w64 ((w64 (h * a)) + j)))]) (v := iN (at' c (w64 ((w64 (h * a)) + j)))) hs l rfl ty3 (flat_at (enc := e64) (sz := 1) (fun _ => rfl) c (w64 ((w64 (h * a)) + j)) m.1 m.2 0 1 (by decide)) rfl rfl <| asI rfl <| oN <| sK <| cw_ret <| rK (rs := [.tmp 6]) (vs := [iN (at' c (w64 ((w64 (h * a)) + j)))]) (.inr rfl) rfl ⟨rfl, trivial⟩ ?_
 obtain rfl := oJ hm
 replace hs := hs.erase 0
 exact ⟨I, iR, hs, rfl⟩
def f122_m (a : Int) : Option Int :=
  ((f89_m a (-2147483648) 2147483648).bind fun c => some c)
theorem f122_ok (a : Int) {r : Int} (hm : f122_m a = some r)  {I : Im} {F : List HP} {w : World} (hs : Sat I (F) w)  :
    CV P 122 [iN a] w fun v w' => ∃ (J : Im), Im.le I J ∧ Sat J (F) w' ∧ v = iN r := by
 unfold f122_m at hm
 refine cv_of (n := 5) Proofs.Tryz.func122 rfl rfl (nLe rfl) <| cQ <| cR <| asI rfl <| oN <| sQR <| cR <| mI rfl ?_
 obtain ⟨c, d, hm⟩ := bS hm
 refine oC (fi := []) (vs := (cL1 a (-2147483648) 2147483648)) (ca := []) rfl ⟨rfl, rfl, rfl, trivial⟩ en89 (f89_ok _ _ _ d hs) ?_
 clear hs; rintro _ w ⟨e, b, hs, rfl⟩
 refine asI rfl <| oN <| sK <| cw_ret <| rK (rs := [.tmp 2]) (vs := [iN c]) (.inr rfl) rfl ⟨rfl, trivial⟩ ?_
 obtain rfl := oJ hm
 exact ⟨e, b, hs, rfl⟩
def f121_m (h : Int) (e : Int) (d : List Int) (p : Int) (m : Int) : Option Bool :=
  ((f86_m 0 (w64 (h - 1)) [p]).bind fun G => ((if G = true then ((f86_m 0 (w64 (e - 1)) [m]).bind fun t => some t) else some false).bind fun q => some q))
theorem f121_ok (h : Int) (e : Int) (d : List Int) (p : Int) (m : Int) {r : Bool} (hm : f121_m h e d p m = some r) {j : Option Addr} {i : Nat} {I : Im} {F : List HP} {w : World} (hs : Sat I (F) w) (H : Rs I 1 j d.length i (d.flatMap e64)) :
    CV P 121 [.agg (cL0 h e j d.length i).toArray, iN p, iN m] w fun v w' => ∃ (J : Im), Im.le I J ∧ Sat J (F) w' ∧ v = .bool r := by
 unfold f121_m at hm
 refine cv_of (n := 21) Proofs.Tryz.func121 rfl rfl (nLe rfl) <| cQ <| cR <| oB (v := .agg (cL0 h e j d.length i).toArray) (cs := (cL0 h e j d.length i)) hs rfl rfl ?_
 clear hs; intro L w hs
 refine asB rfl <| oN <| sQR <| cR <| oF (b := L) (o := 0) fl210_0 rfl <| ld1 (k := 0) hs rfl rfl ty3 rfl <| oV (x_sub rfl rfl) rfl <| mI rfl <| ow_buildSlice (vp := [(0, iN p)]) (cs := [iN p]) hs sl24 ty3 rfl ⟨rfl, rfl, trivial⟩ (by decide) rfl (by decide) ?_
 clear hs; intro O R w D hs A
 replace A : Rs R 1 O [p].length 1 ([p].flatMap e64) := A
 obtain ⟨G, K, hm⟩ := bS hm
 refine oC (fi := []) (vs := (cL0 0 (w64 (h - 1)) O ([p].length) 1)) (ca := []) rfl ⟨rfl, rfl, rfl, trivial⟩ en86 (f86_ok _ _ _ K hs A) ?_
 clear hs; rintro _ w ⟨Q, z, hs, rfl⟩
 refine mB rfl ?_
 obtain ⟨q, c, hm⟩ := bS hm
 refine oJN 7 (fun f ds w => ∃ (s : Im), ds = [] ∧ Im.le Q s ∧ Sat s (blk L 210 (cL0 h e j d.length i) :: F) w ∧ f 20 = .bool q ∧ f 6 = .bool false) ?_ ?_
 · by_cases a : G = true
   · rw [if_pos a] at c
     refine oG (yO rfl rfl a) <| oF (b := L) (o := 0) fl210_1 rfl <| oG (yO rfl rfl a) <| ld1 (k := 0) hs rfl rfl ty3 rfl <| oG (yO rfl rfl a) <| oV (x_sub rfl rfl) rfl <| oG (yO rfl rfl a) <| mI rfl <| oG (yO rfl rfl a) <| ow_buildSlice (vp := [(0, iN m)]) (cs := [iN m]) hs sl24 ty3 rfl ⟨rfl, rfl, trivial⟩ (by decide) rfl (by decide) ?_
     clear hs; intro E N w x hs l
     replace l : Rs N 1 E [m].length 1 ([m].flatMap e64) := l
     refine oG (yO rfl rfl a) ?_
     obtain ⟨t, C, c⟩ := bS c
     refine oC (fi := []) (vs := (cL0 0 (w64 (e - 1)) E ([m].length) 1)) (ca := []) rfl ⟨rfl, rfl, rfl, trivial⟩ en86 (f86_ok _ _ _ C hs l) ?_
     clear hs; rintro _ w ⟨M, u, hs, rfl⟩
     refine oV (xPt (v := .bool t) ((rfl : ev _ _ _ = _).trans (congrArg Value.bool a)) rfl) rfl <| oN ?_
     obtain rfl := oJ c
     exact ⟨M, rfl, (x.trans u), hs, rfl, rfl⟩
   rw [if_neg a] at c
   refine oO (b := false) (yO rfl rfl (bF a)) rfl <| oO (b := false) (yO rfl rfl (bF a)) rfl <| oO (b := false) (yO rfl rfl (bF a)) rfl <| oO (b := false) (yO rfl rfl (bF a)) rfl <| oO (b := false) (yO rfl rfl (bF a)) rfl <| oO (b := false) (yO rfl rfl (bF a)) rfl <| oV (xPf (v := .bool false) ((rfl : ev _ _ _ = _).trans (congrArg Value.bool (bF a))) rfl) rfl <| oN ?_
   obtain rfl := oJ c
   exact ⟨Q, rfl, iR, hs, rfl, rfl⟩
 clear c hs
 rintro f ds w ⟨s, rfl, y, hs, htbb12, B⟩
 refine asB htbb12 <| oN <| sK <| cw_ret <| rK (rs := [.tmp 6]) (vs := [.bool q]) (.inr rfl) rfl ⟨rfl, trivial⟩ ?_
 obtain rfl := oJ hm
 replace hs := hs.erase 0
 exact ⟨s, ((D.trans z).trans y), hs, rfl⟩
def f88_m (O : Int) (N : Int) (l : Int) (p : Int) (t : Int) (s : Int) (q : Int) (k : Int) (j : Int) (e : List Int) : Option Int :=
  ((f91_m k j e O N).bind fun Q => ((f90_m (w64 ((w64 (l * Q)) + p)) t).bind fun r6 => ((f89_m r6 s q).bind fun x => some x)))
theorem f88_ok (O : Int) (N : Int) (l : Int) (p : Int) (t : Int) (s : Int) (q : Int) (k : Int) (j : Int) (e : List Int) {r : Int} (hm : f88_m O N l p t s q k j e = some r) {m : Nat} {ae : Nat} {i : Option Addr} {h : Nat} {I : Im} {F : List HP} {w : World} (hs : Sat I (F) w) (c : Ib I m 35 (cL3 l p t s q)) (u : Rs I 1 i e.length h (e.flatMap e64)) (y : Ib I ae 26 (cL0 k j i e.length h)) :
    CV P 88 [iN O, iN N, pQ m 0, pQ ae 0] w fun v w' => ∃ (J : Im), Im.le I J ∧ Sat J (F) w' ∧ v = iN r := by
 unfold f88_m at hm
 refine cv_of (n := 25) Proofs.Tryz.func88 rfl rfl (nLe rfl) <| cQ <| cR <| asI rfl <| oN <| sQR ?_
 obtain ⟨Q, ah, hm⟩ := bS hm
 obtain ⟨r6, ag, hm⟩ := bS hm
 obtain ⟨x, R, hm⟩ := bS hm
 refine cD mixed rfl (fun f0 L f w => ∃ (d : Im), Im.le I d ∧ f = frL [(7, 0, pQ m 0), (8, 1, iN l), (9, 2, .agg (cL0 k j i e.length h).toArray), (10, 3, iN O), (11, 4, iN N), (12, 5, iN Q), (13, 6, iN (w64 (l * Q))), (14, 7, pQ m 1), (15, 8, iN p), (16, 9, iN (w64 ((w64 (l * Q)) + p))), (17, 10, pQ m 2), (18, 11, iN t), (19, 12, iN r6), (20, 13, pQ m 3), (21, 14, iN s), (22, 15, pQ m 4), (23, 16, iN q), (24, 17, iN x), (6, 18, iN x)] L f0 ∧ Sat d (F) w) ⟨I, iR, (frL_ff _).symm, hs.drew⟩ ⟨?_, ?_, ?_, ?_, ?_, ?_, ?_, ?_, ?_, ?_, ?_, ?_, ?_, ?_, ?_, ?_, ?_, ?_, ?_, trivial⟩ ?_
 all_goals clear hs
 · rintro L f w _ hL ⟨d, a, rfl, hs⟩
   refine oF (b := m) (o := 0) fl35_0 rfl ?_
   exact oN ⟨rfl, rfl, d, a, fS rfl rfl, hs⟩
 · rintro L f w ⟨ad, _⟩ hL ⟨d, a, rfl, hs⟩
   replace c := c.mono a
   refine ld1I hs c (fG rfl ad) ty3 rfl ?_
   exact oN ⟨rfl, rfl, d, a, fS rfl rfl, hs⟩
 · rintro L f w _ hL ⟨d, a, rfl, hs⟩
   replace y := y.mono a
   refine ow_loadI (vs := (cL0 k j i e.length h)) (v := .agg (cL0 k j i e.length h).toArray) hs y rfl ty26 rfl rfl rfl ?_
   exact oN ⟨rfl, rfl, d, a, fS rfl rfl, hs⟩
 · rintro L f w _ hL ⟨d, a, rfl, hs⟩
   refine mI rfl ?_
   exact oN ⟨rfl, rfl, d, a, fS rfl rfl, hs⟩
 · rintro L f w _ hL ⟨d, a, rfl, hs⟩
   refine mI rfl ?_
   exact oN ⟨rfl, rfl, d, a, fS rfl rfl, hs⟩
 · rintro L f w ⟨aa, Z, Y, _⟩ hL ⟨d, a, rfl, hs⟩
   replace u := u.mono a
   refine oC (fi := []) (vs := [.agg (cL0 k j i e.length h).toArray, iN O, iN N]) (ca := []) rfl ⟨(fG rfl aa), (fG rfl Z), (fG rfl Y), trivial⟩ en91 (f91_ok _ _ _ _ _ ah hs u) ?_
   clear hs; rintro _ w ⟨J3, T, hs, rfl⟩
   exact oN ⟨rfl, rfl, J3, (a.trans T), fS rfl rfl, hs⟩
 · rintro L f w ⟨ac, M, _⟩ hL ⟨d, a, rfl, hs⟩
   refine oV (x_mul (fG rfl ac) (fG rfl M)) rfl ?_
   exact oN ⟨rfl, rfl, d, a, fS rfl rfl, hs⟩
 · rintro L f w _ hL ⟨d, a, rfl, hs⟩
   refine oF (b := m) (o := 0) fl35_1 rfl ?_
   exact oN ⟨rfl, rfl, d, a, fS rfl rfl, hs⟩
 · rintro L f w ⟨W, _⟩ hL ⟨d, a, rfl, hs⟩
   replace c := c.mono a
   refine ld1I hs c (fG rfl W) ty3 rfl ?_
   exact oN ⟨rfl, rfl, d, a, fS rfl rfl, hs⟩
 · rintro L f w ⟨X, V, _⟩ hL ⟨d, a, rfl, hs⟩
   refine oV (x_add (fG rfl X) (fG rfl V)) rfl ?_
   exact oN ⟨rfl, rfl, d, a, fS rfl rfl, hs⟩
 · rintro L f w _ hL ⟨d, a, rfl, hs⟩
   refine oF (b := m) (o := 0) fl35_2 rfl ?_
   exact oN ⟨rfl, rfl, d, a, fS rfl rfl, hs⟩
 · rintro L f w ⟨G, _⟩ hL ⟨d, a, rfl, hs⟩
   replace c := c.mono a
   refine ld1I hs c (fG rfl G) ty3 rfl ?_
   exact oN ⟨rfl, rfl, d, a, fS rfl rfl, hs⟩
 · rintro L f w ⟨U, E, M, _⟩ hL ⟨d, a, rfl, hs⟩
   refine oC (fi := []) (vs := [iN (w64 ((w64 (l * Q)) + p)), iN t]) (ca := []) rfl ⟨(fG rfl U), (fG rfl E), trivial⟩ en90 (f90_ok _ _ ag hs) ?_
   clear hs; rintro _ w ⟨J8, S, hs, rfl⟩
   exact oN ⟨rfl, rfl, J8, (a.trans S), fS rfl rfl, hs⟩
 · rintro L f w _ hL ⟨d, a, rfl, hs⟩
   refine oF (b := m) (o := 0) fl35_3 rfl ?_
   exact oN ⟨rfl, rfl, d, a, fS rfl rfl, hs⟩
 · rintro L f w ⟨C, _⟩ hL ⟨d, a, rfl, hs⟩
   replace c := c.mono a
   refine ld1I hs c (fG rfl C) ty3 rfl ?_
   exact oN ⟨rfl, rfl, d, a, fS rfl rfl, hs⟩
 · rintro L f w _ hL ⟨d, a, rfl, hs⟩
   refine oF (b := m) (o := 0) fl35_4 rfl ?_
   exact oN ⟨rfl, rfl, d, a, fS rfl rfl, hs⟩
 · rintro L f w ⟨A, _⟩ hL ⟨d, a, rfl, hs⟩
   replace c := c.mono a
   refine ld1I hs c (fG rfl A) ty3 rfl ?_
   exact oN ⟨rfl, rfl, d, a, fS rfl rfl, hs⟩
 · rintro L f w ⟨D, B, z, _, _⟩ hL ⟨d, a, rfl, hs⟩
   refine oC (fi := []) (vs := (cL1 r6 s q)) (ca := []) rfl ⟨(fG rfl D), (fG rfl B), (fG rfl z), trivial⟩ en89 (f89_ok _ _ _ R hs) ?_
   clear hs; rintro _ w ⟨ai, K, hs, rfl⟩
   exact oN ⟨rfl, rfl, ai, (a.trans K), fS rfl rfl, hs⟩
 · rintro L f w ⟨ab, _, ad, ac, aa, Z, Y, M, X, W, V, U, G, E, D, C, B, A, z, _, _⟩ hL ⟨d, a, rfl, hs⟩
   refine asI (fG rfl ab) ?_
   exact oN ⟨rfl, rfl, d, a, fS rfl rfl, hs⟩
 rintro L f w hall ⟨aj, H, rfl, hs⟩
 rw [frL_tt _ rfl hall]
 refine sK <| cw_ret <| rK (rs := [.tmp 6]) (vs := [iN x]) (.inr rfl) rfl ⟨rfl, trivial⟩ ?_
 obtain rfl := oJ hm
 exact ⟨aj, H, hs, rfl⟩
def f87_s0 (B : Int) (N : Int) (M : Int) (K : Int) (H : Int) (G : Int) (E : Int) (D : Int) (A : List Int) (e : List Int) (xe : Int × Int) : Option (List Int) :=
  ((f88_m (xe.1) (xe.2) N M K H G E D A).bind fun aj => ((f122_m aj).bind fun C => (if e.length + [C].length ≤ 1099511627776 then some (e ++ [C]) else none)))
def f87_m (B : Int) (O : Int) (N : Int) (M : Int) (K : Int) (H : Int) (G : Int) (E : Int) (D : Int) (A : List Int) : Option (Int × Int × List Int) :=
  (if 0 ≤ (0 : Int) ∧ (0 : Int) ≤ (w64 (B * O)) ∧ (w64 (B * O)) ≤ 1099511627776 then (if (0 ≤ B ∧ B ≤ 1000000) ∧ 0 ≤ O ∧ O ≤ 1000000 then ((itFrom (S := List Int) (fun j s => f87_s0 B N M K H G E D A s (pXY B j)) 0 (pN B O) (List.replicate (0 : Int).toNat (0 : Int))).bind fun e => some (B, O, e)) else none) else none)
theorem f87_ok (B : Int) (O : Int) (N : Int) (M : Int) (K : Int) (H : Int) (G : Int) (E : Int) (D : Int) (A : List Int) {r : Int × Int × List Int} (hm : f87_m B O N M K H G E D A = some r) {T : Nat} {R : Nat} {ae : Option Addr} {ad : Nat} {I : Im} {F : List HP} {w : World} (hs : Sat I (F) w) (ac : Ib I T 35 (cL3 N M K H G)) (V : Rs I 1 ae A.length ad (A.flatMap e64)) (ab : Ib I R 26 (cL0 E D ae A.length ad)) :
    CV P 87 [iN B, iN O, .func (.func 88) #[] #[pQ T 0, pQ R 0]] w fun v w' => ∃ (J : Im) (a2 : Option Addr) (c2 : Nat), Im.le I J ∧ Sat J (osl 3 1 a2 r.2.2.length c2 (r.2.2.flatMap e64) :: F) w' ∧ v = .agg (rL2 r a2 c2).toArray := by
 unfold f87_m at hm
 refine cv_ofM (n := 33) Proofs.Tryz.func87 rfl rfl (nLe rfl) <| cQ <| cR <| oB (v := .func (.func 88) #[] #[pQ T 0, pQ R 0]) (cs := [.func (.func 88) #[] #[pQ T 0, pQ R 0]]) hs rfl rfl ?_
 clear hs; intro b1 w hs
 refine ow_alloc hs ty26 rfl ?_
 clear hs; intro b3 w hs
 refine oN <| sQR <| cR <| mI rfl <| mI rfl <| mI rfl <| mI rfl <| oV (x_mul rfl rfl) rfl ?_
 have ao := (iS hm).1
 replace hm := (iS hm).2
 refine ow_makeT (enc := e64) (z := (0 : Int)) (i := (0 : Int)) (j := (w64 (B * O))) hs sl24 ty3 el3 rfl rfl rfl rfl ao.1 ao.2.1 ao.2.2 (by decide) ?_
 clear hs; intro a6 w hs
 refine oU (vp := [(0, iN B), (1, iN O), (2, .slice a6 ((List.replicate (0 : Int).toNat (0 : Int)).length) ((w64 (B * O)).toNat))]) (cs := (cL0 B O a6 ((List.replicate (0 : Int).toNat (0 : Int)).length) ((w64 (B * O)).toNat))) st26 ty26 ⟨rfl, rfl, rfl, rfl, rfl, rfl, trivial⟩ rfl <| ow_alloc hs ty26 rfl ?_
 clear hs; intro b8 w hs
 refine oS (k := 0) (vs := (cL0 B O a6 ((List.replicate (0 : Int).toNat (0 : Int)).length) ((w64 (B * O)).toNat))) (cs' := (cL0 B O a6 ((List.replicate (0 : Int).toNat (0 : Int)).length) ((w64 (B * O)).toNat))) hs rfl rfl rfl ty26 rfl rfl (nLe rfl) rfl rfl ?_
 clear hs; intro w hs
 refine oN <| sQR <| cQ <| cR <| mI rfl <| mI rfl <| oC (fi := []) (vs := [iN B, iN O]) (ca := []) rfl ⟨rfl, rfl, trivial⟩ en120 (f120_ok hs) ?_
 clear hs; rintro _ w ⟨aK, aW, aV, aa, hs, rfl, aG, aF⟩
 refine oN <| sK <| cw_block ?_
 have aE := (iS hm).1
 replace hm := (iS hm).2
 obtain ⟨ay, aC, aB⟩ := bS hm
 replace hm := aC; clear aC
 refine cw_range hs rfl en146 ?_
 clear hs; intro aU aM fnD59 aI w ap hs
 refine CV.mono (f146_it B O aE (Inv := fun j w => ∃ (e : List Int) (q : Option Addr) (p : Nat) (Z : Im), Im.le aK Z ∧ itFrom (fun j s => f87_s0 B N M K H G E D A s (pXY B j)) j ((pN B O) - j) e = some ay ∧ Sat Z (aI :: HL.ob aM (.deferred (some [])) :: blk b8 26 (cL0 B O q e.length p) :: osl 3 1 q e.length p (e.flatMap e64) :: blk b3 26 (cL0 0 0 none 0 0) :: blk b1 77 [.func (.func 88) #[] #[pQ T 0, pQ R 0]] :: F) w) ?_ ?_ ⟨List.replicate (0 : Int).toNat (0 : Int), a6, (w64 (B * O)).toNat, aK, iR, hm, hs⟩) ?_
 · rintro j w ⟨e, q, p, Z, Q, hit, hs⟩
   exact ⟨_, _, hs, aG.mono Q, aF.mono Q⟩
 · clear hm hs
   rintro j hj w ⟨e, q, p, Z, Q, hit, hs⟩
   obtain ⟨sn, hm, hit2⟩ := it_succ (k := (pN B O) - 1 - j) (by omega) hit
   clear hit
   unfold f87_s0 at hm
   refine yc_of (k := 0) hs ap rfl rfl <| cQ <| cR <| asI rfl <| oN <| sK <| cR <| asI rfl <| oN ?_
   refine ⟨rfl, Z, 0, _, hs, rfl, ?_⟩
   clear hs; intro BB64 w hs
   refine cw_block ?_
   obtain ⟨aj, aA, hm⟩ := bS hm
   obtain ⟨C, az, hm⟩ := bS hm
   have aD := (iS hm).1
   replace hm := (iS hm).2
   refine cD mixed rfl (fun f0 L f w => ∃ (y : Option Addr) (x : Option Addr) (u : Nat) (W : Im), Im.le Z W ∧ f = frL [(22, 0, pQ b8 2), (23, 1, .slice q e.length p), (24, 2, .func (.func 88) #[] #[pQ T 0, pQ R 0]), (25, 3, iN ((pXY B j).1)), (26, 4, iN ((pXY B j).2)), (27, 5, iN aj), (28, 6, iN C), (29, 7, .slice y ([C].length) 1), (30, 8, .slice x ((e ++ [C]).length) u), (31, 9, pQ b8 2)] L f0 ∧ Sat W (BB64 :: HL.ob aM (.deferred (some [])) :: rL [(10, blk b8 26 (cL0 B O x ((e ++ [C]).length) u))] (blk b8 26 (cL0 B O q e.length p)) L :: rL [(8, osl 3 1 x (e ++ [C]).length u ((e ++ [C]).flatMap e64))] (osl 3 1 q e.length p (e.flatMap e64)) L :: blk b3 26 (cL0 0 0 none 0 0) :: blk b1 77 [.func (.func 88) #[] #[pQ T 0, pQ R 0]] :: F) w ∧ (L 7 = true → Rs W 1 y [C].length 1 ([C].flatMap e64)) ∧ (L 10 = true → L 1 = true) ∧ (L 10 = true → L 8 = true)) ⟨none, none, 0, Z, iR, (frL_ff _).symm, hs.drew, (fun h => by cases h), (fun h => by cases h), (fun h => by cases h)⟩ ⟨?_, ?_, ?_, ?_, ?_, ?_, ?_, ?_, ?_, ?_, ?_, trivial⟩ ?_
   all_goals clear hs
   · rintro L f w _ hL ⟨y, x, u, W, t, rfl, hs, l, d, c⟩
     refine oF (b := b8) (o := 0) fl26_2 rfl ?_
     exact oN ⟨rfl, rfl, y, x, u, W, t, fS rfl rfl, hs, (fun h => l h), d, c⟩
   · rintro L f w ⟨ax, _⟩ hL ⟨y, x, u, W, t, rfl, hs, l, d, c⟩
     replace hs := hs.eqv (k := 2) rfl ((rL_f (show L 10 = false from pF d hL) (rL_n)))
     refine ld1 (k := 2) hs rfl (fG rfl ax) ty24 rfl ?_
     replace hs := hs.eqv (k := 2) rfl (Eq.symm (a := rL [(10, blk b8 26 (cL0 B O x ((e ++ [C]).length) u))] (blk b8 26 (cL0 B O q e.length p)) (setL L 1)) (((rL_f (L := setL L 1) (show L 10 = false from pF d hL) (rL_n)))))
     exact oN ⟨rfl, rfl, y, x, u, W, t, fS rfl rfl, hs, (fun h => l h), (fun _ => rfl), c⟩
   · rintro L f w _ hL ⟨y, x, u, W, t, rfl, hs, l, d, c⟩
     refine ld1 (k := 5) hs rfl rfl ty77 rfl ?_
     exact oN ⟨rfl, rfl, y, x, u, W, t, fS rfl rfl, hs, (fun h => l h), d, c⟩
   · rintro L f w _ hL ⟨y, x, u, W, t, rfl, hs, l, d, c⟩
     refine mI rfl ?_
     exact oN ⟨rfl, rfl, y, x, u, W, t, fS rfl rfl, hs, (fun h => l h), d, c⟩
   · rintro L f w _ hL ⟨y, x, u, W, t, rfl, hs, l, d, c⟩
     refine mI rfl ?_
     exact oN ⟨rfl, rfl, y, x, u, W, t, fS rfl rfl, hs, (fun h => l h), d, c⟩
   · rintro L f w ⟨aw, av, au, _⟩ hL ⟨y, x, u, W, t, rfl, hs, l, d, c⟩
     replace ac := ac.mono ((aa.trans Q).trans t); replace V := V.mono ((aa.trans Q).trans t); replace ab := ab.mono ((aa.trans Q).trans t)
     refine oC (fi := []) (vs := [iN ((pXY B j).1), iN ((pXY B j).2)]) (ca := [pQ T 0, pQ R 0]) (fG rfl aw) ⟨(fG rfl av), (fG rfl au), trivial⟩ en88 (f88_ok _ _ _ _ _ _ _ _ _ _ aA hs ac V ab) ?_
     clear hs; rintro _ w ⟨aP, ah, hs, rfl⟩
     exact oN ⟨rfl, rfl, y, x, u, aP, (t.trans ah), fS rfl rfl, hs, (fun h => (l h).mono ah), d, c⟩
   · rintro L f w ⟨ar, _, _⟩ hL ⟨y, x, u, W, t, rfl, hs, l, d, c⟩
     refine oC (fi := []) (vs := [iN aj]) (ca := []) rfl ⟨(fG rfl ar), trivial⟩ en122 (f122_ok _ az hs) ?_
     clear hs; rintro _ w ⟨aO, ag, hs, rfl⟩
     exact oN ⟨rfl, rfl, y, x, u, aO, (t.trans ag), fS rfl rfl, hs, (fun h => (l h).mono ag), d, c⟩
   · rintro L f w ⟨ak, _⟩ hL ⟨y, x, u, W, t, rfl, hs, l, d, c⟩
     refine ow_buildSlice (vp := [(0, iN C)]) (cs := [iN C]) hs sl24 ty3 rfl ⟨rfl, (fG rfl ak), trivial⟩ (by decide) rfl (by decide) ?_
     clear hs; intro y aJ w an hs U
     replace U : Rs aJ 1 y [C].length 1 ([C].flatMap e64) := U
     exact oN ⟨rfl, rfl, y, x, u, aJ, (t.trans an), (Eq.trans (fSG (i := 7) rfl rfl) (rfl)), hs, (fun _ => U), d, c⟩
   · rintro L f w ⟨al, af, ak, _⟩ hL ⟨y, x, u, W, t, rfl, hs, l, d, c⟩
     have U := l af
     replace hs := hs.eqv (k := 3) rfl ((rL_f hL (rL_n)))
     replace hs := hs.eqv (k := 2) rfl ((rL_f (show L 10 = false from pF c hL) (rfl)))
     refine ow_appendT (k := 3) (enc := e64) (X := e) (Y := [C]) hs rfl sl24 ty3 el3 rfl (fG rfl al) (fG rfl af) U (fun _ => rfl) aD (by decide) ?_
     clear hs; intro x u w hs
     replace hs := hs.eqv (k := 2) rfl (Eq.symm (a := rL [(10, blk b8 26 (cL0 B O x ((e ++ [C]).length) u))] (blk b8 26 (cL0 B O q e.length p)) (setL L 8)) (((rL_f (L := setL L 8) (show L 10 = false from pF c hL) (rfl)))))
     exact oN ⟨rfl, rfl, y, x, u, W, t, (Eq.trans (fSG (i := 8) rfl rfl) (rfl)), hs, (fun h => l h), d, (fun _ => rfl)⟩
   · rintro L f w ⟨ax, al, aw, av, au, ar, ak, af, aq, _⟩ hL ⟨y, x, u, W, t, rfl, hs, l, d, c⟩
     have U := l af
     refine oF (b := b8) (o := 0) fl26_2 rfl ?_
     exact oN ⟨rfl, rfl, y, x, u, W, t, fS rfl rfl, hs, (fun h => l h), d, c⟩
   · rintro L f w ⟨aN, aq, _, ax, al, aw, av, au, ar, ak, af, _, _⟩ hL ⟨y, x, u, W, t, rfl, hs, l, d, c⟩
     have U := l af
     replace hs := hs.eqv (k := 2) rfl ((rL_f hL (rL_n)))
     refine oS (k := 2) (vs := [.slice x ((e ++ [C]).length) u]) (cs' := (cL0 B O x ((e ++ [C]).length) u)) hs rfl (fG rfl aN) (fG rfl aq) ty24 rfl rfl (nLe rfl) rfl rfl ?_
     clear hs; intro w hs
     exact oN ⟨rfl, rfl, y, x, u, W, t, frL_no rfl, hs, (fun h => l h), (fun _ => al), (fun _ => aq)⟩
   rintro L f w hall ⟨y, x, u, aL, am, rfl, hs, U, _, _⟩
   rw [frL_tt _ rfl hall]
   replace hs := hs.eqv (k := 2) rfl (rL_t (hall 10 (nLe rfl)))
   replace hs := hs.eqv (k := 3) rfl (rL_t (hall 8 (nLe rfl)))
   replace U := U (hall 7 (nLe rfl))
   refine blockK_n ?_
   obtain rfl := oJ hm
   refine ⟨rfl, aL, 0, _, hs, rfl, ?_⟩
   clear hs; intro w hs
   exact ⟨rfl, e ++ [C], x, u, aL, (Q.trans am), (by rw [show (pN B O) - (j + 1) = (pN B O) - 1 - j by omega]; exact hit2), hs⟩
 clear hm hs
 rintro _ w ⟨e, q, p, Z, Q, hit, hs⟩
 rw [Nat.sub_self] at hit
 obtain rfl := oJ hit
 refine ⟨Z, _, hs, ?_⟩
 clear hs; intro w hs
 replace hm := aB
 refine blockK_n <| sQR <| cR <| oL (k := 1) (vs := (cL0 B O q e.length p)) (v := .agg (cL0 B O q e.length p).toArray) hs rfl rfl ty26 rfl rfl rfl <| oS (k := 3) (vs := (cL0 B O q e.length p)) (cs' := (cL0 B O q e.length p)) hs rfl rfl rfl ty26 rfl rfl (nLe rfl) rfl rfl ?_
 clear hs; intro w hs
 refine oN <| sK <| cw_ret <| ret_mark (k := 0) hs rfl ?_
 clear hs; intro w hs
 refine ret_okM (rs := [.cell 6 26]) (vs := [.agg (cL0 B O q e.length p).toArray]) (.inr rfl) rfl ⟨⟨_, true, _, (cL0 B O q e.length p), rfl, ty26, CA_blk (off := 0) (m := 3) (hs.blk (k := 2) rfl), rfl, rfl⟩, trivial⟩ ?_
 obtain rfl := oJ hm
 replace hs := hs.erase 0
 replace hs := hs.erase 1
 replace hs := hs.erase 1
 exact ⟨Z, q, p, (aa.trans Q), hs, rfl⟩
def f49_m (p : Int) (l : Int) (j : List Int) (i : Int) (h : Int) (e : Int) (d : Int) (c : Int) : Option (Int × Int × List Int × Int) :=
  ((f85_m p l j).bind fun r7 => (if (!r7) = true then some (0, 0, ([] : List Int), 20) else ((f86_m (-65536) 65536 [i]).bind fun an => ((if (!an) = true then some true else ((f86_m (-2147483648) 2147483648 [h, d, c]).bind fun am => some (!am))).bind fun aq => ((if aq = true then some true else ((f86_m 1 65536 [e]).bind fun al => some (!al))).bind fun ap => ((if ap = true then some true else some (decide (c < d))).bind fun ao => (if ao = true then some (0, 0, ([] : List Int), 2) else ((f87_m p l i h e d c p l j).bind fun L => some (L.1, L.2.1, L.2.2, 0)))))))))
theorem f49_ok (p : Int) (l : Int) (j : List Int) (i : Int) (h : Int) (e : Int) (d : Int) (c : Int) {r : Int × Int × List Int × Int} (hm : f49_m p l j i h e d c = some r) {u : Option Addr} {t : Nat} {I : Im} {F : List HP} {w : World} (hs : Sat I (F) w) (H : Rs I 1 u j.length t (j.flatMap e64)) :
    CV P 49 [.agg (cL0 p l u j.length t).toArray, .agg (cL3 i h e d c).toArray] w fun v w' => ∃ (J : Im) (a2 : Option Addr) (c2 : Nat), Im.le I J ∧ Sat J (osl 3 1 a2 r.2.2.1.length c2 (r.2.2.1.flatMap e64) :: F) w' ∧ v = .tuple #[.agg (cL0 r.1 r.2.1 a2 r.2.2.1.length c2).toArray, iN r.2.2.2] := by
 unfold f49_m at hm
 refine cv_of (n := 47) Proofs.Tryz.func49 rfl rfl (nLe rfl) <| cQ <| cR <| oB (v := .agg (cL0 p l u j.length t).toArray) (cs := (cL0 p l u j.length t)) hs rfl rfl ?_
 clear hs; intro b1 w hs
 refine oB (v := .agg (cL3 i h e d c).toArray) (cs := (cL3 i h e d c)) hs rfl rfl ?_
 clear hs; intro Z w hs
 refine ow_alloc hs ty26 rfl ?_
 clear hs; intro b5 w hs
 refine asI rfl <| oN <| sQR <| cQ <| cR <| oL (k := 2) (vs := (cL0 p l u j.length t)) (v := .agg (cL0 p l u j.length t).toArray) hs rfl rfl ty26 rfl rfl rfl ?_
 obtain ⟨r7, aL, hm⟩ := bS hm
 refine oC (fi := []) (vs := [.agg (cL0 p l u j.length t).toArray]) (ca := []) rfl ⟨rfl, trivial⟩ en85 (f85_ok _ _ _ aL hs H) ?_
 clear hs; rintro _ w ⟨J9, K, hs, rfl⟩
 refine oV (x_not (b := r7) rfl) rfl <| oN <| sK ?_
 by_cases ab : (!r7) = true
 · rw [if_pos ab] at hm
   refine cIt rfl ab <| cQ <| cR <| oU (vp := []) (cs := (cL0 0 0 none 0 0)) st26 ty26 trivial rfl <| oS (k := 0) (vs := (cL0 0 0 none 0 0)) (cs' := (cL0 0 0 none 0 0)) hs rfl rfl rfl ty26 rfl rfl (nLe rfl) rfl rfl ?_
   clear hs; intro w hs
   refine asI rfl <| oN <| sK <| cw_ret <| seqK_r <| rK (rs := [.cell 4 26, .tmp 5]) (vs := [.agg (cL0 0 0 none 0 0).toArray, iN 20]) (.inr rfl) rfl ⟨⟨_, true, _, (cL0 0 0 none 0 0), rfl, ty26, CA_blk (off := 0) (m := 3) (hs.blk (k := 0) rfl), rfl, rfl⟩, rfl, trivial⟩ ?_
   obtain rfl := oJ hm
   replace hs := hs.pushNil 3 1
   replace hs := hs.erase 1
   replace hs := hs.erase 1
   replace hs := hs.erase 1
   exact ⟨J9, none, 0, K, hs, rfl⟩
 rw [if_neg ab] at hm
 refine cIf rfl (bF ab) <| cw_skip <| sQR <| cQ <| cR <| oF (b := Z) (o := 0) fl35_0 rfl <| ld1 (k := 1) hs rfl rfl ty3 rfl <| ow_buildSlice (vp := [(0, iN i)]) (cs := [iN i]) hs sl24 ty3 rfl ⟨rfl, rfl, trivial⟩ (by decide) rfl (by decide) ?_
 clear hs; intro aI aR w Y hs ah
 replace ah : Rs aR 1 aI [i].length 1 ([i].flatMap e64) := ah
 obtain ⟨an, aE, hm⟩ := bS hm
 refine oC (fi := []) (vs := (cL0 (-65536) 65536 aI ([i].length) 1)) (ca := []) rfl ⟨rfl, rfl, rfl, trivial⟩ en86 (f86_ok _ _ _ aE hs ah) ?_
 clear hs; rintro _ w ⟨aJ, X, hs, rfl⟩
 refine oV (x_not (b := an) rfl) rfl <| mB rfl ?_
 obtain ⟨aq, y, hm⟩ := bS hm
 refine oJN 10 (fun f ds w => ∃ (aj : Im), ds = [] ∧ Im.le aJ aj ∧ Sat aj (blk b5 26 (cL0 0 0 none 0 0) :: blk Z 35 (cL3 i h e d c) :: blk b1 26 (cL0 p l u j.length t) :: F) w ∧ f 25 = .bool aq ∧ f 2 = pQ b1 0 ∧ f 3 = pQ Z 0 ∧ f 4 = pQ b5 0 ∧ f 5 = iN 0) ?_ ?_
 · by_cases a : (!an) = true
   · rw [if_pos a] at y
     refine oO (b := true) (yO rfl rfl a) rfl <| oO (b := true) (yO rfl rfl a) rfl <| oO (b := true) (yO rfl rfl a) rfl <| oO (b := true) (yO rfl rfl a) rfl <| oO (b := true) (yO rfl rfl a) rfl <| oO (b := true) (yO rfl rfl a) rfl <| oO (b := true) (yO rfl rfl a) rfl <| oO (b := true) (yO rfl rfl a) rfl <| oO (b := true) (yO rfl rfl a) rfl <| oV (xPt (v := .bool true) ((rfl : ev _ _ _ = _).trans (congrArg Value.bool a)) rfl) rfl <| oN ?_
     obtain rfl := oJ y
     exact ⟨aJ, rfl, iR, hs, rfl, rfl, rfl, rfl, rfl⟩
   rw [if_neg a] at y
   refine oG (yO rfl rfl (bF a)) <| oF (b := Z) (o := 0) fl35_1 rfl <| oG (yO rfl rfl (bF a)) <| ld1 (k := 1) hs rfl rfl ty3 rfl <| oG (yO rfl rfl (bF a)) <| oF (b := Z) (o := 0) fl35_3 rfl <| oG (yO rfl rfl (bF a)) <| ld1 (k := 1) hs rfl rfl ty3 rfl <| oG (yO rfl rfl (bF a)) <| oF (b := Z) (o := 0) fl35_4 rfl <| oG (yO rfl rfl (bF a)) <| ld1 (k := 1) hs rfl rfl ty3 rfl ?_
   refine oG (yO rfl rfl (bF a)) <| ow_buildSlice (vp := [(0, iN h), (1, iN d), (2, iN c)]) (cs := (cL1 h d c)) hs sl24 ty3 rfl ⟨rfl, rfl, rfl, rfl, rfl, rfl, trivial⟩ (by decide) rfl (by decide) ?_
   clear hs; intro aH aQ w ay hs ag
   replace ag : Rs aQ 1 aH [h, d, c].length 3 ([h, d, c].flatMap e64) := ag
   refine oG (yO rfl rfl (bF a)) ?_
   obtain ⟨am, aD, y⟩ := bS y
   refine oC (fi := []) (vs := (cL0 (-2147483648) 2147483648 aH ([h, d, c].length) 3)) (ca := []) rfl ⟨rfl, rfl, rfl, trivial⟩ en86 (f86_ok _ _ _ aD hs ag) ?_
   clear hs; rintro _ w ⟨aP, ax, hs, rfl⟩
   refine oG (yO rfl rfl (bF a)) <| oV (x_not (b := am) rfl) rfl <| oV (xPf (v := .bool (!am)) ((rfl : ev _ _ _ = _).trans (congrArg Value.bool (bF a))) rfl) rfl <| oN ?_
   obtain rfl := oJ y
   exact ⟨aP, rfl, (ay.trans ax), hs, rfl, rfl, rfl, rfl, rfl⟩
 clear y hs
 rintro f ds w ⟨aj, rfl, W, hs, htbb23, S, D, Q, N⟩
 refine mB htbb23 ?_
 obtain ⟨ap, x, hm⟩ := bS hm
 refine oJN 6 (fun f ds w => ∃ (ac : Im), ds = [] ∧ Im.le aj ac ∧ Sat ac (blk b5 26 (cL0 0 0 none 0 0) :: blk Z 35 (cL3 i h e d c) :: blk b1 26 (cL0 p l u j.length t) :: F) w ∧ f 32 = .bool ap ∧ f 2 = pQ b1 0 ∧ f 3 = pQ Z 0 ∧ f 4 = pQ b5 0 ∧ f 5 = iN 0) ?_ ?_
 · by_cases s : aq = true
   · rw [if_pos s] at x
     refine oO (b := true) (yO rfl rfl s) rfl <| oO (b := true) (yO rfl rfl s) rfl <| oO (b := true) (yO rfl rfl s) rfl <| oO (b := true) (yO rfl rfl s) rfl <| oO (b := true) (yO rfl rfl s) rfl <| oV (xPt (v := .bool true) ((rfl : ev _ _ _ = _).trans (congrArg Value.bool s)) rfl) rfl <| oN ?_
     obtain rfl := oJ x
     exact ⟨aj, rfl, iR, hs, rfl, S, D, Q, N⟩
   rw [if_neg s] at x
   refine oG (yO rfl rfl (bF s)) <| oF (b := Z) (o := 0) fl35_2 D <| oG (yO rfl rfl (bF s)) <| ld1 (k := 1) hs rfl rfl ty3 rfl <| oG (yO rfl rfl (bF s)) <| ow_buildSlice (vp := [(0, iN e)]) (cs := [iN e]) hs sl24 ty3 rfl ⟨rfl, rfl, trivial⟩ (by decide) rfl (by decide) ?_
   clear hs; intro aG aO w aw hs af
   replace af : Rs aO 1 aG [e].length 1 ([e].flatMap e64) := af
   refine oG (yO rfl rfl (bF s)) ?_
   obtain ⟨al, aC, x⟩ := bS x
   refine oC (fi := []) (vs := (cL0 1 65536 aG ([e].length) 1)) (ca := []) rfl ⟨rfl, rfl, rfl, trivial⟩ en86 (f86_ok _ _ _ aC hs af) ?_
   clear hs; rintro _ w ⟨aN, av, hs, rfl⟩
   refine oG (yO rfl rfl (bF s)) <| oV (x_not (b := al) rfl) rfl <| oV (xPf (v := .bool (!al)) ((rfl : ev _ _ _ = _).trans (congrArg Value.bool (bF s))) rfl) rfl <| oN ?_
   obtain rfl := oJ x
   exact ⟨aN, rfl, (aw.trans av), hs, rfl, S, D, Q, N⟩
 clear x hs
 rintro f ds w ⟨ac, rfl, V, hs, htbb36, R, A, O, M⟩
 refine mB htbb36 ?_
 obtain ⟨ao, G, hm⟩ := bS hm
 refine oJN 6 (fun f ds w => ∃ (ar : Im), ds = [] ∧ Im.le ac ar ∧ Sat ar (blk b5 26 (cL0 0 0 none 0 0) :: blk Z 35 (cL3 i h e d c) :: blk b1 26 (cL0 p l u j.length t) :: F) w ∧ f 39 = .bool ao ∧ f 2 = pQ b1 0 ∧ f 3 = pQ Z 0 ∧ f 4 = pQ b5 0 ∧ f 5 = iN 0) ?_ ?_
 · by_cases q : ap = true
   · rw [if_pos q] at G
     refine oO (b := true) (yO rfl rfl q) rfl <| oO (b := true) (yO rfl rfl q) rfl <| oO (b := true) (yO rfl rfl q) rfl <| oO (b := true) (yO rfl rfl q) rfl <| oO (b := true) (yO rfl rfl q) rfl <| oV (xPt (v := .bool true) ((rfl : ev _ _ _ = _).trans (congrArg Value.bool q)) rfl) rfl <| oN ?_
     obtain rfl := oJ G
     exact ⟨ac, rfl, iR, hs, rfl, R, A, O, M⟩
   rw [if_neg q] at G
   refine oG (yO rfl rfl (bF q)) <| oF (b := Z) (o := 0) fl35_3 A <| oG (yO rfl rfl (bF q)) <| ld1 (k := 1) hs rfl rfl ty3 rfl <| oG (yO rfl rfl (bF q)) <| oF (b := Z) (o := 0) fl35_4 A <| oG (yO rfl rfl (bF q)) <| ld1 (k := 1) hs rfl rfl ty3 rfl <| oG (yO rfl rfl (bF q)) <| oV (x_gtr rfl rfl) rfl <| oV (xPf (v := .bool (decide (c < d))) ((rfl : ev _ _ _ = _).trans (congrArg Value.bool (bF q))) rfl) rfl <| oN ?_
   obtain rfl := oJ G
   exact ⟨ac, rfl, iR, hs, rfl, R, A, O, M⟩
 clear G hs
 rintro f ds w ⟨ar, rfl, U, hs, htbb49, E, ad, z, aA⟩
 refine oN <| sK ?_
 by_cases aa : ao = true
 · rw [if_pos aa] at hm
   refine cIt htbb49 aa <| cQ <| cR <| oU (vp := []) (cs := (cL0 0 0 none 0 0)) st26 ty26 trivial rfl <| oS (k := 0) (vs := (cL0 0 0 none 0 0)) (cs' := (cL0 0 0 none 0 0)) hs rfl z rfl ty26 rfl rfl (nLe rfl) rfl rfl ?_
   clear hs; intro w hs
   refine asI rfl <| oN <| sK <| cw_ret <| seqK_r <| rK (rs := [.cell 4 26, .tmp 5]) (vs := [.agg (cL0 0 0 none 0 0).toArray, iN 2]) (.inr rfl) rfl ⟨⟨_, true, _, (cL0 0 0 none 0 0), z, ty26, CA_blk (off := 0) (m := 3) (hs.blk (k := 0) rfl), rfl, rfl⟩, rfl, trivial⟩ ?_
   obtain rfl := oJ hm
   replace hs := hs.pushNil 3 1
   replace hs := hs.erase 1
   replace hs := hs.erase 1
   replace hs := hs.erase 1
   exact ⟨ar, none, 0, (((((K.trans Y).trans X).trans W).trans V).trans U), hs, rfl⟩
 rw [if_neg aa] at hm
 refine cIf htbb49 (bF aa) <| cw_skip <| sQR <| cR <| oF (b := b1) (o := 0) fl26_0 E <| ld1 (k := 2) hs rfl rfl ty3 rfl <| oF (b := b1) (o := 0) fl26_1 E <| ld1 (k := 2) hs rfl rfl ty3 rfl ?_
 replace hs := hs.front (k := 1) rfl
 obtain ⟨aW, ae, ai, hs⟩ := hs.freezeB
 replace hs := hs.front (k := 1) rfl
 obtain ⟨aV, T, aF, hs⟩ := hs.freezeB
 refine oV (x_funcL (vf := []) (vc := [pQ Z 0, pQ b1 0]) trivial ⟨ad, E, trivial⟩) rfl ?_
 obtain ⟨L, aB, hm⟩ := bS hm
 replace H := H.mono (((((((K.trans Y).trans X).trans W).trans V).trans U).trans ae).trans T); replace ai := ai.mono T
 refine oC (fi := []) (vs := [iN p, iN l, .func (.func 88) #[] #[pQ Z 0, pQ b1 0]]) (ca := []) rfl ⟨rfl, rfl, rfl, trivial⟩ en87 (f87_ok _ _ _ _ _ _ _ _ _ _ aB hs ai H aF) ?_
 clear hs; rintro _ w ⟨aM, C, B, au, hs, rfl⟩
 refine oS (k := 1) (vs := (rL2 L C B)) (cs' := (rL2 L C B)) hs rfl z rfl ty26 rfl rfl (nLe rfl) rfl rfl ?_
 clear hs; intro w hs
 refine asI rfl <| oN <| sK <| cw_ret <| rK (rs := [.cell 4 26, .tmp 5]) (vs := [.agg (rL2 L C B).toArray, iN 0]) (.inr rfl) rfl ⟨⟨_, true, _, (rL2 L C B), z, ty26, CA_blk (off := 0) (m := 3) (hs.blk (k := 1) rfl), rfl, rfl⟩, rfl, trivial⟩ ?_
 obtain rfl := oJ hm
 replace hs := hs.erase 1
 exact ⟨aM, C, B, ((((((((K.trans Y).trans X).trans W).trans V).trans U).trans ae).trans T).trans au), hs, rfl⟩
end Go.HL.Tz
