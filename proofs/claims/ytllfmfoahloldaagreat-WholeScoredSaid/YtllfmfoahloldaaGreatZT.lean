/- The walks of some functions, printed by a program of ours (gox). -/
import Derived.Test.YtllfmfoahloldaaGreatZQ
import Derived.Test.YtllfmfoahloldaaGreatZS
import Derived.Test.YtllfmfoahloldaaGreatHL24
set_option linter.unusedVariables false
set_option linter.unusedSimpArgs false
set_option maxRecDepth 100000
set_option maxHeartbeats 400000
namespace Go.HL.Tz
open Go.HL
attribute [local irreducible] OW CW CV
theorem fl81_0 : FldT P 81 0 0 := ⟨by kernel_rfl⟩
theorem fl81_1 : FldT P 81 1 1 := ⟨by kernel_rfl⟩
theorem en67 : Proofs.Enters P 67 := Proofs.enters_of Proofs.Tryz.func67 (by kernel_rfl) rfl
theorem en108 : Proofs.Enters P 108 := Proofs.enters_of Proofs.Tryz.func108 (by kernel_rfl) rfl
theorem en68 : Proofs.Enters P 68 := Proofs.enters_of Proofs.Tryz.func68 (by kernel_rfl) rfl
theorem ty165 : TyC P 165 true (.bool false :: .bool false :: .bool false :: .bool false :: iN 0 :: .nilFunc :: .bool false :: .bool false :: .bool false :: .bool false :: iN 0 :: .nilFunc :: .bool false :: .bool false :: .bool false :: .bool false :: iN 0 :: .nilFunc :: .bool false :: .bool false :: .bool false :: .bool false :: iN 0 :: .nilFunc :: .bool false :: .bool false :: .bool false :: .bool false :: iN 0 :: .nilFunc :: .bool false :: .bool false :: .bool false :: .bool false :: iN 0 :: .nilFunc :: .bool false :: .bool false :: .bool false :: .bool false :: iN 0 :: .nilFunc :: []) := ⟨by kernel_rfl, by kernel_rfl, (fun h => by cases h), by kernel_rfl⟩
theorem st164 : StrT P 164 [(0, 1), (1, 1), (2, 1), (3, 1), (4, 1), (5, 1)] := ⟨by kernel_rfl⟩
theorem ty164 : TyC P 164 true [.bool false, .bool false, .bool false, .bool false, iN 0, .nilFunc] := ⟨by kernel_rfl, by kernel_rfl, (fun h => by cases h), by kernel_rfl⟩
theorem ar165 : ArrT P 165 7 164 := (by kernel_rfl : P.underlying 165 = some (.array 7 164))
theorem en43 : Proofs.Enters P 43 := Proofs.enters_of Proofs.Tryz.func43 (by kernel_rfl) rfl
theorem fl168_0 : FldT P 168 0 0 := ⟨by kernel_rfl⟩
theorem fl164_0 : FldT P 164 0 0 := ⟨by kernel_rfl⟩
theorem fl168_1 : FldT P 168 1 1 := ⟨by kernel_rfl⟩
theorem en110 : Proofs.Enters P 110 := Proofs.enters_of Proofs.Tryz.func110 (by kernel_rfl) rfl
theorem fl164_1 : FldT P 164 1 1 := ⟨by kernel_rfl⟩
theorem fl168_2 : FldT P 168 2 2 := ⟨by kernel_rfl⟩
theorem fl164_2 : FldT P 164 2 2 := ⟨by kernel_rfl⟩
theorem fl168_3 : FldT P 168 3 3 := ⟨by kernel_rfl⟩
theorem fl164_4 : FldT P 164 4 4 := ⟨by kernel_rfl⟩
theorem fl168_4 : FldT P 168 4 4 := ⟨by kernel_rfl⟩
theorem fl164_3 : FldT P 164 3 3 := ⟨by kernel_rfl⟩
theorem fl168_7 : FldT P 168 7 11 := ⟨by kernel_rfl⟩
theorem en111 : Proofs.Enters P 111 := Proofs.enters_of Proofs.Tryz.func111 (by kernel_rfl) rfl
theorem en112 : Proofs.Enters P 112 := Proofs.enters_of Proofs.Tryz.func112 (by kernel_rfl) rfl
theorem fl168_5 : FldT P 168 5 5 := ⟨by kernel_rfl⟩
theorem fl168_6 : FldT P 168 6 10 := ⟨by kernel_rfl⟩
theorem en71 : Proofs.Enters P 71 := Proofs.enters_of Proofs.Tryz.func71 (by kernel_rfl) rfl
theorem en70 : Proofs.Enters P 70 := Proofs.enters_of Proofs.Tryz.func70 (by kernel_rfl) rfl
theorem en109 : Proofs.Enters P 109 := Proofs.enters_of Proofs.Tryz.func109 (by kernel_rfl) rfl
theorem en69 : Proofs.Enters P 69 := Proofs.enters_of Proofs.Tryz.func69 (by kernel_rfl) rfl
theorem en73 : Proofs.Enters P 73 := Proofs.enters_of Proofs.Tryz.func73 (by kernel_rfl) rfl
theorem en113 : Proofs.Enters P 113 := Proofs.enters_of Proofs.Tryz.func113 (by kernel_rfl) rfl
theorem en72 : Proofs.Enters P 72 := Proofs.enters_of Proofs.Tryz.func72 (by kernel_rfl) rfl
def f67_m (e : Int) (d : Int) : Option Bool :=
  ((if ¬ (e = (-1)) then ((f59_m e 0 d).bind fun l => some (!l)) else some false).bind fun o => some o)
theorem f67_ok (e : Int) (d : Int) {r : Bool} (hm : f67_m e d = some r) {k : Nat} {I : Im} {F : List HP} {w : World} (hs : Sat I (F) w) (j : Ib I k 3 [iN d]) :
    CV P 67 [iN e, pQ k 0] w fun v w' => ∃ (J : Im), Im.le I J ∧ Sat J (F) w' ∧ v = .bool r := by
 unfold f67_m at hm
 refine cv_of (n := 12) Proofs.Tryz.func67 rfl rfl (nLe rfl) <| cQ <| cR <| asB rfl <| oN <| sQR <| cR <| mI rfl <| oV (x_neqD rfl rfl) rfl <| mB rfl ?_
 obtain ⟨o, c, hm⟩ := bS hm
 refine oJN 5 (fun f ds w => ∃ (p : Im), ds = [] ∧ Im.le I p ∧ Sat p (F) w ∧ f 11 = .bool o ∧ f 3 = .bool false) ?_ ?_
 · by_cases a : ¬ (e = (-1))
   · rw [if_pos a] at c
     refine oG (yO rfl rfl (dT a)) <| mI rfl <| oG (yO rfl rfl (dT a)) <| ld1I hs j rfl ty3 rfl <| oG (yO rfl rfl (dT a)) ?_
     obtain ⟨l, q, c⟩ := bS c
     refine oC (fi := []) (vs := (cL1 e 0 d)) (ca := []) rfl ⟨rfl, rfl, rfl, trivial⟩ en59 (f59_ok _ _ _ q hs) ?_
     clear hs; rintro _ w ⟨s, h, hs, rfl⟩
     refine oG (yO rfl rfl (dT a)) <| oV (x_not (b := l) rfl) rfl <| oV (xPt (v := .bool (!l)) ((rfl : ev _ _ _ = _).trans (congrArg Value.bool (dT a))) rfl) rfl <| oN ?_
     obtain rfl := oJ c
     exact ⟨s, rfl, h, hs, rfl, rfl⟩
   rw [if_neg a] at c
   refine oO (b := false) (yO rfl rfl (dF a)) rfl <| oO (b := false) (yO rfl rfl (dF a)) rfl <| oO (b := false) (yO rfl rfl (dF a)) rfl <| oO (b := false) (yO rfl rfl (dF a)) rfl <| oV (xPf (v := .bool false) ((rfl : ev _ _ _ = _).trans (congrArg Value.bool (dF a))) rfl) rfl <| oN ?_
   obtain rfl := oJ c
   exact ⟨I, rfl, iR, hs, rfl, rfl⟩
 clear c hs
 rintro f ds w ⟨p, rfl, i, hs, htbb1, m⟩
 refine asB htbb1 <| oN <| sK <| cw_ret <| rK (rs := [.tmp 3]) (vs := [.bool o]) (.inr rfl) rfl ⟨rfl, trivial⟩ ?_
 obtain rfl := oJ hm
 exact ⟨p, i, hs, rfl⟩
def f108_l0 (e : List Int) (b : Int) : Nat → Int → Option (Sum Unit Int)
  | 0, _ => none
  | k + 1, a => (if a < (e.length : Int) then (if 0 ≤ a ∧ a < (e.length : Int) then ((f67_m (at' e a) b).bind fun D => (if D = true then some (Sum.inr a) else (f108_l0 e b k (w64 (a + 1))))) else none) else some (Sum.inl ()))
def f108_m (e : List Int) (b : Int) : Option Int :=
  (lb (S := Unit) (f108_l0 e b FUEL 0) id (fun C => some (-1)))
theorem f108_ok (e : List Int) (b : Int) {r : Int} (hm : f108_m e b = some r) {H : Option Addr} {G : Nat} {d : Nat} {I : Im} {F : List HP} {w : World} (hs : Sat I (F) w) (y : Rs I 1 H e.length G (e.flatMap e64)) (j : Ib I d 3 [iN b]) :
    CV P 108 [.slice H e.length G, .func (.func 67) #[] #[pQ d 0]] w fun v w' => ∃ (J : Im), Im.le I J ∧ Sat J (F) w' ∧ v = iN r := by
 unfold f108_m at hm
 refine cv_of (n := 19) Proofs.Tryz.func108 rfl rfl (nLe rfl) <| cQ <| cR <| asI rfl <| oN <| sK ?_
 obtain ⟨K, N, B⟩ := lb_some hm
 replace hm := N; clear N
 refine cJ (fun f ds w => ∃ (C : Unit) (A : Im), ds = [] ∧ Im.le I A ∧ K = Sum.inl C ∧ Sat A (F) w ∧ f 4 = iN 0) ?_ ?_
 · refine cQ <| cR <| mS rfl <| oV (x_len sl24 rfl) rfl <| mI rfl <| oN <| sK <| cw_block ?_
   refine cL (S := fun k f ds w => ∃ (a : Int), ∃ (z : Im), ds = [] ∧ Im.le I z ∧ f108_l0 e b k a = some K ∧ Sat z (F) w ∧ f 0 = .slice H e.length G ∧ f 1 = .func (.func 67) #[] #[pQ d 0] ∧ f 4 = iN 0 ∧ f 7 = iN (e.length : Int) ∧ f 8 = iN a) ?_ (k := FUEL) ⟨0, I, rfl, iR, hm, hs, rfl, rfl, rfl, rfl, rfl⟩
   clear hm hs
   rintro k f ds w ⟨a, z, rfl, c, hm, hs, s, q, o, m, h⟩
   rcases k with _ | k
   · unfold f108_l0 at hm; cases hm
   unfold f108_l0 at hm
   refine cQ <| cR <| oV (x_lss h m) rfl <| oN <| sQR ?_
   by_cases u : a < (e.length : Int)
   · rw [if_pos u] at hm
     refine cIt rfl (dT u) <| cw_skip <| sQR <| cw_block <| cQ <| cR <| mI h <| asI rfl <| oN <| sQR ?_
     refine cR <| oV (xM (v := .func (.func 67) #[] #[pQ d 0]) q) rfl <| mS s <| mI rfl ?_
     have l := (iS hm).1
     replace hm := (iS hm).2
     replace y := y.mono c
     refine oI (i := a) sl24 ty3 rfl rfl l.1 l.2 (Rs.some y (by have := l; omega)) <| oLR (p := a.toNat * 1) (vs := [iN (at' e a)]) (v := iN (at' e a)) hs y rfl ty3 (flat_at (enc := e64) (sz := 1) (fun _ => rfl) e a l.1 l.2 0 1 (by decide)) rfl rfl ?_
     obtain ⟨D, M, hm⟩ := bS hm
     replace j := j.mono c
     refine oC (fi := []) (vs := [iN (at' e a)]) (ca := [pQ d 0]) rfl ⟨rfl, trivial⟩ en67 (f67_ok _ _ M hs j) ?_
     clear hs; rintro _ w ⟨O, x, hs, rfl⟩
     refine oN <| sK ?_
     by_cases t : D = true
     · rw [if_pos t] at hm
       refine cIt rfl t <| cQ <| cR <| mI rfl <| asI rfl <| oN <| sK <| cw_ret <| blockK_r <| seqK_r <| loopK_r <| blockK_r ?_
       refine joinK_r <| rK (rs := [.tmp 4]) (vs := [iN a]) (.inr rfl) rfl ⟨rfl, trivial⟩ ?_
       replace hm := lret hm B
       obtain rfl := oJ hm
       exact ⟨O, (c.trans x), hs, rfl⟩
     rw [if_neg t] at hm
     refine cIf rfl (bF t) <| cw_skip <| blockK_n <| sK <| cR <| oV (x_add h rfl) rfl <| mI rfl <| oN ?_
     exact lN ⟨k, Nat.lt_succ_self k, w64 (a + 1), O, rfl, (c.trans x), hm, hs, s, q, o, m, rfl⟩
   rw [if_neg u] at hm
   refine cIf rfl (dF u) <| cw_exit <| seqK_x <| loopK_x <| blockK_hit ?_
   obtain rfl := oJ hm
   refine jN ⟨(), z, rfl, c, rfl, hs, o⟩
 clear hm hs
 rintro f ds w ⟨C, A, rfl, E, rfl, hs, L⟩
 replace hm := lexit rfl B
 refine cQ <| cR <| asI rfl <| oN <| sK <| cw_ret <| rK (rs := [.tmp 4]) (vs := [iN (-1)]) (.inr rfl) rfl ⟨rfl, trivial⟩ ?_
 obtain rfl := oJ hm
 exact ⟨A, E, hs, rfl⟩
def f68_m (d : List Int) (a : Int) : Option Bool :=
  ((f108_m d a).bind fun i => some (decide (0 ≤ i)))
theorem f68_ok (d : List Int) (a : Int) {r : Bool} (hm : f68_m d a = some r) {f : Option Addr} {e : Nat} {b : Nat} {I : Im} {F : List HP} {w : World} (hs : Sat I (F) w) (j : Rs I 1 f d.length e (d.flatMap e64)) (c : Ib I b 3 [iN a]) :
    CV P 68 [.slice f d.length e, .func (.func 67) #[] #[pQ b 0]] w fun v w' => ∃ (J : Im), Im.le I J ∧ Sat J (F) w' ∧ v = .bool r := by
 unfold f68_m at hm
 refine cv_of (n := 9) Proofs.Tryz.func68 rfl rfl (nLe rfl) <| cQ <| cR <| asB rfl <| oN <| sQR <| cR <| mS rfl <| oV (xM (v := .func (.func 67) #[] #[pQ b 0]) rfl) rfl ?_
 obtain ⟨i, k, hm⟩ := bS hm
 refine oC (fi := []) (vs := [.slice f d.length e, .func (.func 67) #[] #[pQ b 0]]) (ca := []) rfl ⟨rfl, rfl, trivial⟩ en108 (f108_ok _ _ k hs j c) ?_
 clear hs; rintro _ w ⟨l, h, hs, rfl⟩
 refine oV (x_geq rfl rfl) rfl <| asB rfl <| oN <| sK <| cw_ret <| rK (rs := [.tmp 4]) (vs := [.bool (decide (0 ≤ i))]) (.inr rfl) rfl ⟨rfl, trivial⟩ ?_
 obtain rfl := oJ hm
 exact ⟨l, h, hs, rfl⟩
def f43_m  : Option Unit :=
  some ()
theorem f43_ok  {r : Unit} (hm : f43_m  = some r)  {I : Im} {F : List HP} {w : World} (hs : Sat I (F) w)  :
    CV P 43 [] w fun v w' => ∃ (J : Im), Im.le I J ∧ Sat J (F) w' ∧ v = .agg (List.toArray (.bool false :: .bool false :: .bool false :: .bool false :: iN 0 :: .nilFunc :: .bool true :: .bool false :: .bool false :: .bool true :: iN 2147483648 :: .func (.func 75) #[] #[] :: .bool false :: .bool true :: .bool false :: .bool true :: iN 0 :: .func (.func 76) #[] #[] :: .bool true :: .bool false :: .bool false :: .bool false :: iN 2147483648 :: .func (.func 77) #[] #[] :: .bool true :: .bool true :: .bool false :: .bool false :: iN 0 :: .func (.func 78) #[] #[] :: .bool true :: .bool true :: .bool true :: .bool false :: iN 0 :: .func (.func 79) #[] #[] :: .bool true :: .bool true :: .bool false :: .bool false :: iN 65536 :: .func (.func 80) #[] #[] :: [])) := by
 unfold f43_m at hm
 refine cv_of (n := 8) Proofs.Tryz.func43 rfl rfl (nLe rfl) <| cQ <| cR <| ow_alloc hs ty165 rfl ?_
 clear hs; intro a w hs
 refine oN <| sQR <| cR <| oU (vp := [(0, .bool true), (3, .bool true), (4, iN 2147483648), (5, .func (.func 75) #[] #[])]) (cs := [.bool true, .bool false, .bool false, .bool true, iN 2147483648, .func (.func 75) #[] #[]]) st164 ty164 ⟨rfl, rfl, rfl, rfl, rfl, rfl, rfl, rfl, trivial⟩ rfl <| oU (vp := [(1, .bool true), (3, .bool true), (5, .func (.func 76) #[] #[])]) (cs := [.bool false, .bool true, .bool false, .bool true, iN 0, .func (.func 76) #[] #[]]) st164 ty164 ⟨rfl, rfl, rfl, rfl, rfl, rfl, trivial⟩ rfl <| oU (vp := [(0, .bool true), (4, iN 2147483648), (5, .func (.func 77) #[] #[])]) (cs := [.bool true, .bool false, .bool false, .bool false, iN 2147483648, .func (.func 77) #[] #[]]) st164 ty164 ⟨rfl, rfl, rfl, rfl, rfl, rfl, trivial⟩ rfl <| oU (vp := [(0, .bool true), (1, .bool true), (5, .func (.func 78) #[] #[])]) (cs := [.bool true, .bool true, .bool false, .bool false, iN 0, .func (.func 78) #[] #[]]) st164 ty164 ⟨rfl, rfl, rfl, rfl, rfl, rfl, trivial⟩ rfl <| oU (vp := [(0, .bool true), (1, .bool true), (2, .bool true), (5, .func (.func 79) #[] #[])]) (cs := [.bool true, .bool true, .bool true, .bool false, iN 0, .func (.func 79) #[] #[]]) st164 ty164 ⟨rfl, rfl, rfl, rfl, rfl, rfl, rfl, rfl, trivial⟩ rfl <| oU (vp := [(0, .bool true), (1, .bool true), (4, iN 65536), (5, .func (.func 80) #[] #[])]) (cs := [.bool true, .bool true, .bool false, .bool false, iN 65536, .func (.func 80) #[] #[]]) st164 ty164 ⟨rfl, rfl, rfl, rfl, rfl, rfl, rfl, rfl, trivial⟩ rfl ?_
 refine ow_buildA (vp := [(1, .agg #[.bool true, .bool false, .bool false, .bool true, iN 2147483648, .func (.func 75) #[] #[]]), (2, .agg #[.bool false, .bool true, .bool false, .bool true, iN 0, .func (.func 76) #[] #[]]), (3, .agg #[.bool true, .bool false, .bool false, .bool false, iN 2147483648, .func (.func 77) #[] #[]]), (4, .agg #[.bool true, .bool true, .bool false, .bool false, iN 0, .func (.func 78) #[] #[]]), (5, .agg #[.bool true, .bool true, .bool true, .bool false, iN 0, .func (.func 79) #[] #[]]), (6, .agg #[.bool true, .bool true, .bool false, .bool false, iN 65536, .func (.func 80) #[] #[]])]) (cs := (.bool false :: .bool false :: .bool false :: .bool false :: iN 0 :: .nilFunc :: .bool true :: .bool false :: .bool false :: .bool true :: iN 2147483648 :: .func (.func 75) #[] #[] :: .bool false :: .bool true :: .bool false :: .bool true :: iN 0 :: .func (.func 76) #[] #[] :: .bool true :: .bool false :: .bool false :: .bool false :: iN 2147483648 :: .func (.func 77) #[] #[] :: .bool true :: .bool true :: .bool false :: .bool false :: iN 0 :: .func (.func 78) #[] #[] :: .bool true :: .bool true :: .bool true :: .bool false :: iN 0 :: .func (.func 79) #[] #[] :: .bool true :: .bool true :: .bool false :: .bool false :: iN 65536 :: .func (.func 80) #[] #[] :: [])) ar165 ty164 ty165 ⟨rfl, rfl, rfl, rfl, rfl, rfl, rfl, rfl, rfl, rfl, rfl, rfl, trivial⟩ rfl <| oS (k := 0) (vs := (.bool false :: .bool false :: .bool false :: .bool false :: iN 0 :: .nilFunc :: .bool true :: .bool false :: .bool false :: .bool true :: iN 2147483648 :: .func (.func 75) #[] #[] :: .bool false :: .bool true :: .bool false :: .bool true :: iN 0 :: .func (.func 76) #[] #[] :: .bool true :: .bool false :: .bool false :: .bool false :: iN 2147483648 :: .func (.func 77) #[] #[] :: .bool true :: .bool true :: .bool false :: .bool false :: iN 0 :: .func (.func 78) #[] #[] :: .bool true :: .bool true :: .bool true :: .bool false :: iN 0 :: .func (.func 79) #[] #[] :: .bool true :: .bool true :: .bool false :: .bool false :: iN 65536 :: .func (.func 80) #[] #[] :: [])) (cs' := (.bool false :: .bool false :: .bool false :: .bool false :: iN 0 :: .nilFunc :: .bool true :: .bool false :: .bool false :: .bool true :: iN 2147483648 :: .func (.func 75) #[] #[] :: .bool false :: .bool true :: .bool false :: .bool true :: iN 0 :: .func (.func 76) #[] #[] :: .bool true :: .bool false :: .bool false :: .bool false :: iN 2147483648 :: .func (.func 77) #[] #[] :: .bool true :: .bool true :: .bool false :: .bool false :: iN 0 :: .func (.func 78) #[] #[] :: .bool true :: .bool true :: .bool true :: .bool false :: iN 0 :: .func (.func 79) #[] #[] :: .bool true :: .bool true :: .bool false :: .bool false :: iN 65536 :: .func (.func 80) #[] #[] :: [])) hs rfl rfl rfl ty165 rfl rfl (nLe rfl) rfl rfl ?_
 clear hs; intro w hs
 refine oN <| sK <| cw_ret <| rK (rs := [.cell 0 165]) (vs := [.agg (List.toArray (.bool false :: .bool false :: .bool false :: .bool false :: iN 0 :: .nilFunc :: .bool true :: .bool false :: .bool false :: .bool true :: iN 2147483648 :: .func (.func 75) #[] #[] :: .bool false :: .bool true :: .bool false :: .bool true :: iN 0 :: .func (.func 76) #[] #[] :: .bool true :: .bool false :: .bool false :: .bool false :: iN 2147483648 :: .func (.func 77) #[] #[] :: .bool true :: .bool true :: .bool false :: .bool false :: iN 0 :: .func (.func 78) #[] #[] :: .bool true :: .bool true :: .bool true :: .bool false :: iN 0 :: .func (.func 79) #[] #[] :: .bool true :: .bool true :: .bool false :: .bool false :: iN 65536 :: .func (.func 80) #[] #[] :: []))]) (.inr rfl) rfl ⟨⟨_, true, _, (.bool false :: .bool false :: .bool false :: .bool false :: iN 0 :: .nilFunc :: .bool true :: .bool false :: .bool false :: .bool true :: iN 2147483648 :: .func (.func 75) #[] #[] :: .bool false :: .bool true :: .bool false :: .bool true :: iN 0 :: .func (.func 76) #[] #[] :: .bool true :: .bool false :: .bool false :: .bool false :: iN 2147483648 :: .func (.func 77) #[] #[] :: .bool true :: .bool true :: .bool false :: .bool false :: iN 0 :: .func (.func 78) #[] #[] :: .bool true :: .bool true :: .bool true :: .bool false :: iN 0 :: .func (.func 79) #[] #[] :: .bool true :: .bool true :: .bool false :: .bool false :: iN 65536 :: .func (.func 80) #[] #[] :: []), rfl, ty165, CA_blk (off := 0) (m := 42) (hs.blk (k := 0) rfl), rfl, rfl⟩, trivial⟩ ?_
 obtain rfl := oJ hm
 replace hs := hs.erase 0
 exact ⟨I, iR, hs, rfl⟩
def f110_m (j : Bool) (k : Int) (h : Int) (d : Int) (e : Int) : Option Bool :=
  ((if (!j) = true then some true else ((f59_m k 0 (w64 (d - 1))).bind fun u => some u)).bind fun s => some s)
theorem f110_ok (j : Bool) (k : Int) (h : Int) (d : Int) (e : Int) {r : Bool} (hm : f110_m j k h d e = some r) {i : Nat} {I : Im} {F : List HP} {w : World} (hs : Sat I (F) w) (p : Ib I i 46 (cL1 h d e)) :
    CV P 110 [.bool j, iN k, pQ i 0] w fun v w' => ∃ (J : Im), Im.le I J ∧ Sat J (F) w' ∧ v = .bool r := by
 unfold f110_m at hm
 refine cv_of (n := 15) Proofs.Tryz.func110 rfl rfl (nLe rfl) <| cQ <| cR <| asB rfl <| oN <| sQR <| cR <| mB rfl <| oV (x_not (b := j) rfl) rfl <| mB rfl ?_
 obtain ⟨s, c, hm⟩ := bS hm
 refine oJN 6 (fun f ds w => ∃ (t : Im), ds = [] ∧ Im.le I t ∧ Sat t (F) w ∧ f 14 = .bool s ∧ f 5 = .bool false) ?_ ?_
 · by_cases a : (!j) = true
   · rw [if_pos a] at c
     refine oO (b := true) (yO rfl rfl a) rfl <| oO (b := true) (yO rfl rfl a) rfl <| oO (b := true) (yO rfl rfl a) rfl <| oO (b := true) (yO rfl rfl a) rfl <| oO (b := true) (yO rfl rfl a) rfl <| oV (xPt (v := .bool true) ((rfl : ev _ _ _ = _).trans (congrArg Value.bool a)) rfl) rfl <| oN ?_
     obtain rfl := oJ c
     exact ⟨I, rfl, iR, hs, rfl, rfl⟩
   rw [if_neg a] at c
   refine oG (yO rfl rfl (bF a)) <| mI rfl <| oG (yO rfl rfl (bF a)) <| oF (b := i) (o := 0) fl46_1 rfl <| oG (yO rfl rfl (bF a)) <| ld1I hs p rfl ty3 rfl <| oG (yO rfl rfl (bF a)) <| oV (x_sub rfl rfl) rfl <| oG (yO rfl rfl (bF a)) ?_
   obtain ⟨u, x, c⟩ := bS c
   refine oC (fi := []) (vs := (cL1 k 0 (w64 (d - 1)))) (ca := []) rfl ⟨rfl, rfl, rfl, trivial⟩ en59 (f59_ok _ _ _ x hs) ?_
   clear hs; rintro _ w ⟨y, l, hs, rfl⟩
   refine oV (xPf (v := .bool u) ((rfl : ev _ _ _ = _).trans (congrArg Value.bool (bF a))) rfl) rfl <| oN ?_
   obtain rfl := oJ c
   exact ⟨y, rfl, l, hs, rfl, rfl⟩
 clear c hs
 rintro f ds w ⟨t, rfl, m, hs, htbb1, q⟩
 refine asB htbb1 <| oN <| sK <| cw_ret <| rK (rs := [.tmp 5]) (vs := [.bool s]) (.inr rfl) rfl ⟨rfl, trivial⟩ ?_
 obtain rfl := oJ hm
 exact ⟨t, m, hs, rfl⟩
def f111_l0 (e : List Int) : Nat → Int → Int → Option Int
  | 0, _, _ => none
  | k + 1, d, c => (if c < (e.length : Int) then (if 0 ≤ c ∧ c < (e.length : Int) then (f111_l0 e k (min d (at' e c)) (w64 (c + 1))) else none) else some d)
def f111_m (e : List Int) : Option Int :=
  (if (e.length : Int) < 1 then none else (if 0 ≤ (0 : Int) ∧ (0 : Int) < (e.length : Int) then ((f111_l0 e FUEL (at' e (0 : Int)) 1).bind fun (E : Int) => some E) else none))
theorem f111_ok (e : List Int) {r : Int} (hm : f111_m e = some r) {D : Option Addr} {C : Nat} {I : Im} {F : List HP} {w : World} (hs : Sat I (F) w) (t : Rs I 1 D e.length C (e.flatMap e64)) :
    CV P 111 [.slice D e.length C] w fun v w' => ∃ (J : Im), Im.le I J ∧ Sat J (F) w' ∧ v = iN r := by
 unfold f111_m at hm
 refine cv_of (n := 25) Proofs.Tryz.func111 rfl rfl (nLe rfl) <| cQ <| cR <| asI rfl <| oN <| sQR <| cQ <| cR <| mS rfl <| oV (x_len sl24 rfl) rfl <| oV (x_lss rfl rfl) rfl ?_
 refine oN <| sK ?_
 by_cases z : (e.length : Int) < 1
 · rw [if_pos z] at hm
   refine cIt rfl (dT z) <| cR ?_
   cases hm
 rw [if_neg z] at hm
 refine cIf rfl (dF z) <| cw_skip <| sQR <| cR <| mS rfl ?_
 have u := (iS hm).1
 replace hm := (iS hm).2
 refine oI (i := (0 : Int)) sl24 ty3 rfl rfl u.1 u.2 (Rs.some t (by have := u; omega)) <| oLR (p := (0 : Int).toNat * 1) (vs := [iN (at' e (0 : Int))]) (v := iN (at' e (0 : Int))) hs t rfl ty3 (flat_at (enc := e64) (sz := 1) (fun _ => rfl) e (0 : Int) u.1 u.2 0 1 (by decide)) rfl rfl <| asI rfl <| oN <| sK ?_
 obtain ⟨E, H, G⟩ := bS hm
 replace hm := H; clear H
 refine cJ (fun f ds w => ∃ (A : Im), ds = [] ∧ Im.le I A ∧ Sat A (F) w ∧ f 2 = iN 0 ∧ f 3 = iN E) ?_ ?_
 · refine cQ <| cR <| asI rfl <| oN <| sK <| cw_block ?_
   refine cL (S := fun k f ds w => ∃ (d : Int) (c : Int), ∃ (x : Im), ds = [] ∧ Im.le I x ∧ f111_l0 e k d c = some E ∧ Sat x (F) w ∧ f 0 = .slice D e.length C ∧ f 2 = iN 0 ∧ f 3 = iN d ∧ f 4 = iN c) ?_ (k := FUEL) ⟨(at' e (0 : Int)), 1, I, rfl, iR, hm, hs, rfl, rfl, rfl, rfl⟩
   clear hm hs
   rintro k f ds w ⟨d, c, x, rfl, m, hm, hs, j, q, o, h⟩
   rcases k with _ | k
   · unfold f111_l0 at hm; cases hm
   unfold f111_l0 at hm
   refine cQ <| cQ <| cR <| mI h <| mS j <| oV (x_len sl24 rfl) rfl <| oV (x_lss rfl rfl) rfl <| oN <| sK ?_
   by_cases s : c < (e.length : Int)
   · rw [if_pos s] at hm
     refine cIt rfl (dT s) <| cw_skip <| sQR <| cw_block <| cR <| mI o <| mS j <| mI h ?_
     have l := (iS hm).1
     replace hm := (iS hm).2
     replace t := t.mono m
     refine oI (i := c) sl24 ty3 rfl rfl l.1 l.2 (Rs.some t (by have := l; omega)) <| oLR (p := c.toNat * 1) (vs := [iN (at' e c)]) (v := iN (at' e c)) hs t rfl ty3 (flat_at (enc := e64) (sz := 1) (fun _ => rfl) e c l.1 l.2 0 1 (by decide)) rfl rfl <| oV (x_min2 (k := .i64) (a := d) (b := (at' e c)) rfl rfl) rfl <| asI rfl <| oN <| blockK_n <| sK <| cR <| mI h <| oV (x_add rfl rfl) rfl <| asI rfl <| oN ?_
     exact lN ⟨k, Nat.lt_succ_self k, min d (at' e c), w64 (c + 1), x, rfl, m, hm, hs, j, q, rfl, rfl⟩
   rw [if_neg s] at hm
   refine cIf rfl (dF s) <| cw_exit <| seqK_x <| loopK_x <| blockK_hit ?_
   obtain rfl := oJ hm
   refine jN ⟨x, rfl, m, hs, q, o⟩
 clear hm hs
 rintro f ds w ⟨A, rfl, B, hs, K, y⟩
 replace hm := G
 refine cQ <| cR <| mI y <| asI rfl <| oN <| sK <| cw_ret <| rK (rs := [.tmp 2]) (vs := [iN E]) (.inr rfl) rfl ⟨rfl, trivial⟩ ?_
 obtain rfl := oJ hm
 exact ⟨A, B, hs, rfl⟩
def f112_l0 (e : List Int) : Nat → Int → Int → Option Int
  | 0, _, _ => none
  | k + 1, d, c => (if c < (e.length : Int) then (if 0 ≤ c ∧ c < (e.length : Int) then (f112_l0 e k (max d (at' e c)) (w64 (c + 1))) else none) else some d)
def f112_m (e : List Int) : Option Int :=
  (if (e.length : Int) < 1 then none else (if 0 ≤ (0 : Int) ∧ (0 : Int) < (e.length : Int) then ((f112_l0 e FUEL (at' e (0 : Int)) 1).bind fun (E : Int) => some E) else none))
theorem f112_ok (e : List Int) {r : Int} (hm : f112_m e = some r) {D : Option Addr} {C : Nat} {I : Im} {F : List HP} {w : World} (hs : Sat I (F) w) (t : Rs I 1 D e.length C (e.flatMap e64)) :
    CV P 112 [.slice D e.length C] w fun v w' => ∃ (J : Im), Im.le I J ∧ Sat J (F) w' ∧ v = iN r := by
 unfold f112_m at hm
 refine cv_of (n := 25) Proofs.Tryz.func112 rfl rfl (nLe rfl) <| cQ <| cR <| asI rfl <| oN <| sQR <| cQ <| cR <| mS rfl <| oV (x_len sl24 rfl) rfl <| oV (x_lss rfl rfl) rfl ?_
 refine oN <| sK ?_
 by_cases z : (e.length : Int) < 1
 · rw [if_pos z] at hm
   refine cIt rfl (dT z) <| cR ?_
   cases hm
 rw [if_neg z] at hm
 refine cIf rfl (dF z) <| cw_skip <| sQR <| cR <| mS rfl ?_
 have u := (iS hm).1
 replace hm := (iS hm).2
 refine oI (i := (0 : Int)) sl24 ty3 rfl rfl u.1 u.2 (Rs.some t (by have := u; omega)) <| oLR (p := (0 : Int).toNat * 1) (vs := [iN (at' e (0 : Int))]) (v := iN (at' e (0 : Int))) hs t rfl ty3 (flat_at (enc := e64) (sz := 1) (fun _ => rfl) e (0 : Int) u.1 u.2 0 1 (by decide)) rfl rfl <| asI rfl <| oN <| sK ?_
 obtain ⟨E, H, G⟩ := bS hm
 replace hm := H; clear H
 refine cJ (fun f ds w => ∃ (A : Im), ds = [] ∧ Im.le I A ∧ Sat A (F) w ∧ f 2 = iN 0 ∧ f 3 = iN E) ?_ ?_
 · refine cQ <| cR <| asI rfl <| oN <| sK <| cw_block ?_
   refine cL (S := fun k f ds w => ∃ (d : Int) (c : Int), ∃ (x : Im), ds = [] ∧ Im.le I x ∧ f112_l0 e k d c = some E ∧ Sat x (F) w ∧ f 0 = .slice D e.length C ∧ f 2 = iN 0 ∧ f 3 = iN d ∧ f 4 = iN c) ?_ (k := FUEL) ⟨(at' e (0 : Int)), 1, I, rfl, iR, hm, hs, rfl, rfl, rfl, rfl⟩
   clear hm hs
   rintro k f ds w ⟨d, c, x, rfl, m, hm, hs, j, q, o, h⟩
   rcases k with _ | k
   · unfold f112_l0 at hm; cases hm
   unfold f112_l0 at hm
   refine cQ <| cQ <| cR <| mI h <| mS j <| oV (x_len sl24 rfl) rfl <| oV (x_lss rfl rfl) rfl <| oN <| sK ?_
   by_cases s : c < (e.length : Int)
   · rw [if_pos s] at hm
     refine cIt rfl (dT s) <| cw_skip <| sQR <| cw_block <| cR <| mI o <| mS j <| mI h ?_
     have l := (iS hm).1
     replace hm := (iS hm).2
     replace t := t.mono m
     refine oI (i := c) sl24 ty3 rfl rfl l.1 l.2 (Rs.some t (by have := l; omega)) <| oLR (p := c.toNat * 1) (vs := [iN (at' e c)]) (v := iN (at' e c)) hs t rfl ty3 (flat_at (enc := e64) (sz := 1) (fun _ => rfl) e c l.1 l.2 0 1 (by decide)) rfl rfl <| oV (x_max2 (k := .i64) (a := d) (b := (at' e c)) rfl rfl) rfl <| asI rfl <| oN <| blockK_n <| sK <| cR <| mI h <| oV (x_add rfl rfl) rfl <| asI rfl <| oN ?_
     exact lN ⟨k, Nat.lt_succ_self k, max d (at' e c), w64 (c + 1), x, rfl, m, hm, hs, j, q, rfl, rfl⟩
   rw [if_neg s] at hm
   refine cIf rfl (dF s) <| cw_exit <| seqK_x <| loopK_x <| blockK_hit ?_
   obtain rfl := oJ hm
   refine jN ⟨x, rfl, m, hs, q, o⟩
 clear hm hs
 rintro f ds w ⟨A, rfl, B, hs, K, y⟩
 replace hm := G
 refine cQ <| cR <| mI y <| asI rfl <| oN <| sK <| cw_ret <| rK (rs := [.tmp 2]) (vs := [iN E]) (.inr rfl) rfl ⟨rfl, trivial⟩ ?_
 obtain rfl := oJ hm
 exact ⟨A, B, hs, rfl⟩
def tbf71_0 (e : Int) : Bool := ([false, true, false, true, true, true, true] : List Bool).getD e.toNat false
def tbf71_1 (e : Int) : Bool := ([false, false, true, false, true, true, true] : List Bool).getD e.toNat false
def tbf71_2 (e : Int) : Bool := ([false, false, false, false, false, true, false] : List Bool).getD e.toNat false
def tbf71_3 (e : Int) : Bool := ([false, true, true, false, false, false, false] : List Bool).getD e.toNat false
def tbf71_4 (e : Int) : Int := ([0, 2147483648, 0, 2147483648, 0, 0, 65536] : List Int).getD e.toNat 0
def tbf71_5 (e : Int) : Value := ([.nilFunc, .func (.func 75) #[] #[], .func (.func 76) #[] #[], .func (.func 77) #[] #[], .func (.func 78) #[] #[], .func (.func 79) #[] #[], .func (.func 80) #[] #[]] : List Value).getD e.toNat .nilFunc
def f71_m (Q : Int) (al : Int) (V : Int) (d : Int) (ac : Int) (ab : Int) (aa : Int) (Z : Int) (O : Int) (N : Int) (M : Int) (K : Int) (H : Int) (C : Int) (s : List Int) : Option Bool :=
  ((if d < 1 then some true else some (decide (7 ≤ (w64 (d))))).bind fun b7 => (if b7 = true then some false else (if 0 ≤ d ∧ d < 7 then ((f110_m (tbf71_0 d) ac Q al V).bind fun bz => ((if (!bz) = true then some true else ((f110_m (tbf71_1 d) ab Q al V).bind fun bx => some (!bx))).bind fun bD => ((if bD = true then some true else ((f110_m (tbf71_2 d) aa Q al V).bind fun bw => some (!bw))).bind fun bC => ((if bC = true then some true else (if 0 < (tbf71_4 d) then ((f59_m Z (w64 (0 - (tbf71_4 d))) (tbf71_4 d)).bind fun bs => some (!bs)) else some false)).bind fun bB => (if bB = true then some false else (if (tbf71_3 d) = true then (if ¬ ((s.length : Int) = Q) then some false else ((f111_m s).bind fun av => (if av < (-1) then some false else ((f112_m s).bind fun aJ => (if V ≤ aJ then some false else (if d = 4 then ((f49_m 1 1 [0] O N M K H).bind fun ay => some (decide (ay.2.2.2 = 0))) else (if d = 5 then ((f104_m 1 1 [0] 1 1 [0] C).bind fun ax => some (decide (ax.2.2.2 = 0))) else some (decide ((0 : Int) = 0))))))))) else (if d = 4 then ((f49_m 1 1 [0] O N M K H).bind fun aA => some (decide (aA.2.2.2 = 0))) else (if d = 5 then ((f104_m 1 1 [0] 1 1 [0] C).bind fun az => some (decide (az.2.2.2 = 0))) else some (decide ((0 : Int) = 0)))))))))) else none)))
theorem f71_ok (Q : Int) (al : Int) (V : Int) (d : Int) (ac : Int) (ab : Int) (aa : Int) (Z : Int) (O : Int) (N : Int) (M : Int) (K : Int) (H : Int) (C : Int) (s : List Int) {r : Bool} (hm : f71_m Q al V d ac ab aa Z O N M K H C s = some r) {x : Option Addr} {u : Nat} {I : Im} {F : List HP} {w : World} (hs : Sat I (F) w) (X : Rs I 1 x s.length u (s.flatMap e64)) :
    CV P 71 [.agg (cL1 Q al V).toArray, .agg (cL13 d ac ab aa Z O N M K H C x s.length u).toArray, .agg (List.toArray (.bool false :: .bool false :: .bool false :: .bool false :: iN 0 :: .nilFunc :: .bool true :: .bool false :: .bool false :: .bool true :: iN 2147483648 :: .func (.func 75) #[] #[] :: .bool false :: .bool true :: .bool false :: .bool true :: iN 0 :: .func (.func 76) #[] #[] :: .bool true :: .bool false :: .bool false :: .bool false :: iN 2147483648 :: .func (.func 77) #[] #[] :: .bool true :: .bool true :: .bool false :: .bool false :: iN 0 :: .func (.func 78) #[] #[] :: .bool true :: .bool true :: .bool true :: .bool false :: iN 0 :: .func (.func 79) #[] #[] :: .bool true :: .bool true :: .bool false :: .bool false :: iN 65536 :: .func (.func 80) #[] #[] :: []))] w fun v w' => ∃ (J : Im), Im.le I J ∧ Sat J (F) w' ∧ v = .bool r := by
 unfold f71_m at hm
 refine cv_of (n := 115) Proofs.Tryz.func71 rfl rfl (nLe rfl) <| cQ <| cR <| oB (v := .agg (cL1 Q al V).toArray) (cs := (cL1 Q al V)) hs rfl rfl ?_
 clear hs; intro b1 w hs
 refine oB (v := .agg (cL13 d ac ab aa Z O N M K H C x s.length u).toArray) (cs := (cL13 d ac ab aa Z O N M K H C x s.length u)) hs rfl rfl ?_
 clear hs; intro b3 w hs
 refine oB (v := .agg (List.toArray (.bool false :: .bool false :: .bool false :: .bool false :: iN 0 :: .nilFunc :: .bool true :: .bool false :: .bool false :: .bool true :: iN 2147483648 :: .func (.func 75) #[] #[] :: .bool false :: .bool true :: .bool false :: .bool true :: iN 0 :: .func (.func 76) #[] #[] :: .bool true :: .bool false :: .bool false :: .bool false :: iN 2147483648 :: .func (.func 77) #[] #[] :: .bool true :: .bool true :: .bool false :: .bool false :: iN 0 :: .func (.func 78) #[] #[] :: .bool true :: .bool true :: .bool true :: .bool false :: iN 0 :: .func (.func 79) #[] #[] :: .bool true :: .bool true :: .bool false :: .bool false :: iN 65536 :: .func (.func 80) #[] #[] :: []))) (cs := (.bool false :: .bool false :: .bool false :: .bool false :: iN 0 :: .nilFunc :: .bool true :: .bool false :: .bool false :: .bool true :: iN 2147483648 :: .func (.func 75) #[] #[] :: .bool false :: .bool true :: .bool false :: .bool true :: iN 0 :: .func (.func 76) #[] #[] :: .bool true :: .bool false :: .bool false :: .bool false :: iN 2147483648 :: .func (.func 77) #[] #[] :: .bool true :: .bool true :: .bool false :: .bool false :: iN 0 :: .func (.func 78) #[] #[] :: .bool true :: .bool true :: .bool true :: .bool false :: iN 0 :: .func (.func 79) #[] #[] :: .bool true :: .bool true :: .bool false :: .bool false :: iN 65536 :: .func (.func 80) #[] #[] :: [])) hs rfl rfl ?_
 clear hs; intro b5 w hs
 refine asB rfl <| oN <| sQR <| cQ <| cR <| oF (b := b3) (o := 0) fl168_0 rfl <| ld1 (k := 1) hs rfl rfl ty5 rfl <| oV (x_lss rfl rfl) rfl <| mB rfl ?_
 obtain ⟨b7, aO, hm⟩ := bS hm
 refine oJN 5 (fun f ds w => ∃ (I8 : Im), ds = [] ∧ Im.le I I8 ∧ Sat I8 (blk b5 165 (.bool false :: .bool false :: .bool false :: .bool false :: iN 0 :: .nilFunc :: .bool true :: .bool false :: .bool false :: .bool true :: iN 2147483648 :: .func (.func 75) #[] #[] :: .bool false :: .bool true :: .bool false :: .bool true :: iN 0 :: .func (.func 76) #[] #[] :: .bool true :: .bool false :: .bool false :: .bool false :: iN 2147483648 :: .func (.func 77) #[] #[] :: .bool true :: .bool true :: .bool false :: .bool false :: iN 0 :: .func (.func 78) #[] #[] :: .bool true :: .bool true :: .bool true :: .bool false :: iN 0 :: .func (.func 79) #[] #[] :: .bool true :: .bool true :: .bool false :: .bool false :: iN 65536 :: .func (.func 80) #[] #[] :: []) :: blk b3 168 (cL13 d ac ab aa Z O N M K H C x s.length u) :: blk b1 46 (cL1 Q al V) :: F) w ∧ f 19 = .bool b7 ∧ f 3 = pQ b1 0 ∧ f 4 = pQ b3 0 ∧ f 5 = pQ b5 0 ∧ f 6 = .bool false) ?_ ?_
 · by_cases ag : d < 1
   · rw [if_pos ag] at aO
     refine oO (b := true) (yO rfl rfl (dT ag)) rfl <| oO (b := true) (yO rfl rfl (dT ag)) rfl <| oO (b := true) (yO rfl rfl (dT ag)) rfl <| oO (b := true) (yO rfl rfl (dT ag)) rfl <| oV (xPt (v := .bool true) ((rfl : ev _ _ _ = _).trans (congrArg Value.bool (dT ag))) rfl) rfl <| oN ?_
     obtain rfl := oJ aO
     exact ⟨I, rfl, iR, hs, rfl, rfl, rfl, rfl, rfl⟩
   rw [if_neg ag] at aO
   refine oG (yO rfl rfl (dF ag)) <| oF (b := b3) (o := 0) fl168_0 rfl <| oG (yO rfl rfl (dF ag)) <| ld1 (k := 1) hs rfl rfl ty5 rfl <| oG (yO rfl rfl (dF ag)) <| oV (x_conv (a := d) it5 it3 rfl) rfl <| oG (yO rfl rfl (dF ag)) <| oV (x_geq rfl rfl) rfl <| oV (xPf (v := .bool (decide (7 ≤ (w64 (d))))) ((rfl : ev _ _ _ = _).trans (congrArg Value.bool (dF ag))) rfl) rfl <| oN ?_
   obtain rfl := oJ aO
   exact ⟨I, rfl, iR, hs, rfl, rfl, rfl, rfl, rfl⟩
 clear aO hs
 rintro f ds w ⟨I8, rfl, ad, hs, htbb7, aK, an, bA, aX⟩
 refine oN <| sK ?_
 by_cases a5 : b7 = true
 · rw [if_pos a5] at hm
   refine cIt htbb7 a5 <| cQ <| cR <| asB rfl <| oN <| sK <| cw_ret <| seqK_r <| rK (rs := [.tmp 6]) (vs := [.bool false]) (.inr rfl) rfl ⟨rfl, trivial⟩ ?_
   obtain rfl := oJ hm
   replace hs := hs.erase 0
   replace hs := hs.erase 0
   replace hs := hs.erase 0
   exact ⟨I8, ad, hs, rfl⟩
 rw [if_neg a5] at hm
 refine cIf htbb7 (bF a5) <| cw_skip <| sQR <| cR <| oF (b := b3) (o := 0) fl168_0 an <| ld1 (k := 1) hs rfl rfl ty5 rfl ?_
 have aY := (iS hm).1
 replace hm := (iS hm).2
 refine ow_indexAq (b := b5) (o := 0) (q := d.toNat) (p := 0 + d.toNat * 6) ar165 ty164 bA rfl (by have := aY; omega) (by have := aY; omega) rfl <| oL (k := 0) (vs := [.bool (tbf71_0 d), .bool (tbf71_1 d), .bool (tbf71_2 d), .bool (tbf71_3 d), iN (tbf71_4 d), (tbf71_5 d)]) (v := .agg #[.bool (tbf71_0 d), .bool (tbf71_1 d), .bool (tbf71_2 d), .bool (tbf71_3 d), iN (tbf71_4 d), (tbf71_5 d)]) hs rfl rfl ty164 (by rcases (show d = 0 ∨ d = 1 ∨ d = 2 ∨ d = 3 ∨ d = 4 ∨ d = 5 ∨ d = 6 by have := aY; omega) with hh | hh | hh | hh | hh | hh | hh <;> rw [hh] <;> rfl) rfl rfl <| ow_alloc hs ty164 rfl ?_
 clear hs; intro Y w hs
 refine oS (k := 0) (vs := [.bool (tbf71_0 d), .bool (tbf71_1 d), .bool (tbf71_2 d), .bool (tbf71_3 d), iN (tbf71_4 d), (tbf71_5 d)]) (cs' := [.bool (tbf71_0 d), .bool (tbf71_1 d), .bool (tbf71_2 d), .bool (tbf71_3 d), iN (tbf71_4 d), (tbf71_5 d)]) hs rfl rfl rfl ty164 rfl rfl (nLe rfl) (by rcases (show d = 0 ∨ d = 1 ∨ d = 2 ∨ d = 3 ∨ d = 4 ∨ d = 5 ∨ d = 6 by have := aY; omega) with hh | hh | hh | hh | hh | hh | hh <;> rw [hh] <;> rfl) rfl ?_
 clear hs; intro w hs
 refine oN <| sQR <| cR ?_
 replace hs := hs.front (k := 3) rfl
 obtain ⟨cm, U, R, hs⟩ := hs.freezeB
 refine oV (x_funcL (vf := []) (vc := [pQ b1 0]) trivial ⟨aK, trivial⟩) rfl <| oV (xA (v := .func (.func 110) #[] #[pQ b1 0]) rfl) rfl <| oN <| sQR <| cQ <| cR <| oV (xM (v := .func (.func 110) #[] #[pQ b1 0]) rfl) rfl <| oF (b := Y) (o := 0) fl164_0 rfl <| ld1 (k := 0) hs rfl rfl ty4 rfl <| oF (b := b3) (o := 0) fl168_1 an <| ld1 (k := 2) hs rfl rfl ty3 rfl ?_
 obtain ⟨bz, bZ, hm⟩ := bS hm
 refine oC (fi := []) (vs := [.bool (tbf71_0 d), iN ac]) (ca := [pQ b1 0]) rfl ⟨rfl, rfl, trivial⟩ en110 (f110_ok _ _ _ _ _ bZ hs R) ?_
 clear hs; rintro _ w ⟨b2, y, hs, rfl⟩
 refine oV (x_not (b := bz) rfl) rfl <| mB rfl ?_
 obtain ⟨bD, aj, hm⟩ := bS hm
 refine oJN 8 (fun f ds w => ∃ (bu : Im), ds = [] ∧ Im.le b2 bu ∧ Sat bu (blk Y 164 [.bool (tbf71_0 d), .bool (tbf71_1 d), .bool (tbf71_2 d), .bool (tbf71_3 d), iN (tbf71_4 d), (tbf71_5 d)] :: blk b5 165 (.bool false :: .bool false :: .bool false :: .bool false :: iN 0 :: .nilFunc :: .bool true :: .bool false :: .bool false :: .bool true :: iN 2147483648 :: .func (.func 75) #[] #[] :: .bool false :: .bool true :: .bool false :: .bool true :: iN 0 :: .func (.func 76) #[] #[] :: .bool true :: .bool false :: .bool false :: .bool false :: iN 2147483648 :: .func (.func 77) #[] #[] :: .bool true :: .bool true :: .bool false :: .bool false :: iN 0 :: .func (.func 78) #[] #[] :: .bool true :: .bool true :: .bool true :: .bool false :: iN 0 :: .func (.func 79) #[] #[] :: .bool true :: .bool true :: .bool false :: .bool false :: iN 65536 :: .func (.func 80) #[] #[] :: []) :: blk b3 168 (cL13 d ac ab aa Z O N M K H C x s.length u) :: F) w ∧ f 40 = .bool bD ∧ f 3 = pQ b1 0 ∧ f 4 = pQ b3 0 ∧ f 6 = .bool false ∧ f 7 = pQ Y 0 ∧ f 8 = .func (.func 110) #[] #[pQ b1 0]) ?_ ?_
 · by_cases T : (!bz) = true
   · rw [if_pos T] at aj
     refine oO (b := true) (yO rfl rfl T) rfl <| oO (b := true) (yO rfl rfl T) rfl <| oO (b := true) (yO rfl rfl T) rfl <| oO (b := true) (yO rfl rfl T) rfl <| oO (b := true) (yO rfl rfl T) rfl <| oO (b := true) (yO rfl rfl T) rfl <| oO (b := true) (yO rfl rfl T) rfl <| oV (xPt (v := .bool true) ((rfl : ev _ _ _ = _).trans (congrArg Value.bool T)) rfl) rfl <| oN ?_
     obtain rfl := oJ aj
     exact ⟨b2, rfl, iR, hs, rfl, aK, an, aX, rfl, rfl⟩
   rw [if_neg T] at aj
   refine oG (yO rfl rfl (bF T)) <| oV (xM (v := .func (.func 110) #[] #[pQ b1 0]) rfl) rfl <| oG (yO rfl rfl (bF T)) <| oF (b := Y) (o := 0) fl164_1 rfl <| oG (yO rfl rfl (bF T)) <| ld1 (k := 0) hs rfl rfl ty4 rfl <| oG (yO rfl rfl (bF T)) <| oF (b := b3) (o := 0) fl168_2 an <| oG (yO rfl rfl (bF T)) <| ld1 (k := 2) hs rfl rfl ty3 rfl <| oG (yO rfl rfl (bF T)) ?_
   obtain ⟨bx, bY, aj⟩ := bS aj
   replace R := R.mono y
   refine oC (fi := []) (vs := [.bool (tbf71_1 d), iN ab]) (ca := [pQ b1 0]) rfl ⟨rfl, rfl, trivial⟩ en110 (f110_ok _ _ _ _ _ bY hs R) ?_
   clear hs; rintro _ w ⟨ch, bO, hs, rfl⟩
   refine oG (yO rfl rfl (bF T)) <| oV (x_not (b := bx) rfl) rfl <| oV (xPf (v := .bool (!bx)) ((rfl : ev _ _ _ = _).trans (congrArg Value.bool (bF T))) rfl) rfl <| oN ?_
   obtain rfl := oJ aj
   exact ⟨ch, rfl, bO, hs, rfl, aK, an, aX, rfl, rfl⟩
 clear aj hs
 rintro f ds w ⟨bu, rfl, B, hs, htbb23, aN, aD, aM, aB, bt⟩
 refine mB htbb23 ?_
 obtain ⟨bC, ai, hm⟩ := bS hm
 refine oJN 8 (fun f ds w => ∃ (br : Im), ds = [] ∧ Im.le bu br ∧ Sat br (blk Y 164 [.bool (tbf71_0 d), .bool (tbf71_1 d), .bool (tbf71_2 d), .bool (tbf71_3 d), iN (tbf71_4 d), (tbf71_5 d)] :: blk b5 165 (.bool false :: .bool false :: .bool false :: .bool false :: iN 0 :: .nilFunc :: .bool true :: .bool false :: .bool false :: .bool true :: iN 2147483648 :: .func (.func 75) #[] #[] :: .bool false :: .bool true :: .bool false :: .bool true :: iN 0 :: .func (.func 76) #[] #[] :: .bool true :: .bool false :: .bool false :: .bool false :: iN 2147483648 :: .func (.func 77) #[] #[] :: .bool true :: .bool true :: .bool false :: .bool false :: iN 0 :: .func (.func 78) #[] #[] :: .bool true :: .bool true :: .bool true :: .bool false :: iN 0 :: .func (.func 79) #[] #[] :: .bool true :: .bool true :: .bool false :: .bool false :: iN 65536 :: .func (.func 80) #[] #[] :: []) :: blk b3 168 (cL13 d ac ab aa Z O N M K H C x s.length u) :: F) w ∧ f 49 = .bool bC ∧ f 3 = pQ b1 0 ∧ f 4 = pQ b3 0 ∧ f 6 = .bool false ∧ f 7 = pQ Y 0) ?_ ?_
 · by_cases S : bD = true
   · rw [if_pos S] at ai
     refine oO (b := true) (yO rfl rfl S) rfl <| oO (b := true) (yO rfl rfl S) rfl <| oO (b := true) (yO rfl rfl S) rfl <| oO (b := true) (yO rfl rfl S) rfl <| oO (b := true) (yO rfl rfl S) rfl <| oO (b := true) (yO rfl rfl S) rfl <| oO (b := true) (yO rfl rfl S) rfl <| oV (xPt (v := .bool true) ((rfl : ev _ _ _ = _).trans (congrArg Value.bool S)) rfl) rfl <| oN ?_
     obtain rfl := oJ ai
     exact ⟨bu, rfl, iR, hs, rfl, aN, aD, aM, aB⟩
   rw [if_neg S] at ai
   refine oG (yO rfl rfl (bF S)) <| oV (xM (v := .func (.func 110) #[] #[pQ b1 0]) bt) rfl <| oG (yO rfl rfl (bF S)) <| oF (b := Y) (o := 0) fl164_2 aB <| oG (yO rfl rfl (bF S)) <| ld1 (k := 0) hs rfl rfl ty4 rfl <| oG (yO rfl rfl (bF S)) <| oF (b := b3) (o := 0) fl168_3 aD <| oG (yO rfl rfl (bF S)) <| ld1 (k := 2) hs rfl rfl ty3 rfl <| oG (yO rfl rfl (bF S)) ?_
   obtain ⟨bw, bX, ai⟩ := bS ai
   replace R := R.mono (y.trans B)
   refine oC (fi := []) (vs := [.bool (tbf71_2 d), iN aa]) (ca := [pQ b1 0]) rfl ⟨rfl, rfl, trivial⟩ en110 (f110_ok _ _ _ _ _ bX hs R) ?_
   clear hs; rintro _ w ⟨cg, bN, hs, rfl⟩
   refine oG (yO rfl rfl (bF S)) <| oV (x_not (b := bw) rfl) rfl <| oV (xPf (v := .bool (!bw)) ((rfl : ev _ _ _ = _).trans (congrArg Value.bool (bF S))) rfl) rfl <| oN ?_
   obtain rfl := oJ ai
   exact ⟨cg, rfl, bN, hs, rfl, aN, aD, aM, aB⟩
 clear ai hs
 rintro f ds w ⟨br, rfl, E, hs, htbb32, aE, ao, aC, af⟩
 refine mB htbb32 ?_
 obtain ⟨bB, ae, hm⟩ := bS hm
 refine oJN 15 (fun f ds w => ∃ (aw : Im), ds = [] ∧ Im.le br aw ∧ Sat aw (blk Y 164 [.bool (tbf71_0 d), .bool (tbf71_1 d), .bool (tbf71_2 d), .bool (tbf71_3 d), iN (tbf71_4 d), (tbf71_5 d)] :: blk b5 165 (.bool false :: .bool false :: .bool false :: .bool false :: iN 0 :: .nilFunc :: .bool true :: .bool false :: .bool false :: .bool true :: iN 2147483648 :: .func (.func 75) #[] #[] :: .bool false :: .bool true :: .bool false :: .bool true :: iN 0 :: .func (.func 76) #[] #[] :: .bool true :: .bool false :: .bool false :: .bool false :: iN 2147483648 :: .func (.func 77) #[] #[] :: .bool true :: .bool true :: .bool false :: .bool false :: iN 0 :: .func (.func 78) #[] #[] :: .bool true :: .bool true :: .bool true :: .bool false :: iN 0 :: .func (.func 79) #[] #[] :: .bool true :: .bool true :: .bool false :: .bool false :: iN 65536 :: .func (.func 80) #[] #[] :: []) :: blk b3 168 (cL13 d ac ab aa Z O N M K H C x s.length u) :: F) w ∧ f 65 = .bool bB ∧ f 3 = pQ b1 0 ∧ f 4 = pQ b3 0 ∧ f 6 = .bool false ∧ f 7 = pQ Y 0) ?_ ?_
 · by_cases W : bC = true
   · rw [if_pos W] at ae
     refine oO (b := true) (yO rfl rfl W) rfl <| oO (b := true) (yO rfl rfl W) rfl <| oO (b := true) (yO rfl rfl W) rfl <| oO (b := true) (yO rfl rfl W) rfl <| ow_no' (yl_undef rfl rfl) <| ow_no' (yl_undef rfl rfl) <| ow_no' (yl_undef rfl rfl) <| ow_no' (yl_undef rfl rfl) <| ow_no' (yl_undef rfl rfl) <| ow_no' (yl_undef rfl rfl) <| ow_no' (yl_undef rfl rfl) <| ow_no' (yl_undef rfl rfl) ?_
     refine ow_no' (yl_undef rfl rfl) <| oO (b := true) (yO rfl rfl W) rfl <| oV (xPt (v := .bool true) ((rfl : ev _ _ _ = _).trans (congrArg Value.bool W)) rfl) rfl <| oN ?_
     obtain rfl := oJ ae
     exact ⟨br, rfl, iR, hs, rfl, aE, ao, aC, af⟩
   rw [if_neg W] at ae
   refine oG (yO rfl rfl (bF W)) <| oF (b := Y) (o := 0) fl164_4 af <| oG (yO rfl rfl (bF W)) <| ld1 (k := 0) hs rfl rfl ty3 rfl <| oG (yO rfl rfl (bF W)) <| oV (x_gtr rfl rfl) rfl <| oG (yO rfl rfl (bF W)) <| mB rfl ?_
   by_cases G : 0 < (tbf71_4 d)
   · rw [if_pos G] at ae
     refine oG (yO rfl rfl (dT G)) <| oF (b := b3) (o := 0) fl168_4 ao <| oG (yO rfl rfl (dT G)) <| ld1 (k := 2) hs rfl rfl ty3 rfl <| oG (yO rfl rfl (dT G)) <| oF (b := Y) (o := 0) fl164_4 af <| oG (yO rfl rfl (dT G)) <| ld1 (k := 0) hs rfl rfl ty3 rfl <| oG (yO rfl rfl (dT G)) <| oV (x_neg (k := .i64) (a := (tbf71_4 d)) rfl) rfl <| oG (yO rfl rfl (dT G)) <| oF (b := Y) (o := 0) fl164_4 af ?_
     refine oG (yO rfl rfl (dT G)) <| ld1 (k := 0) hs rfl rfl ty3 rfl <| oG (yO rfl rfl (dT G)) ?_
     obtain ⟨bs, bW, ae⟩ := bS ae
     refine oC (fi := []) (vs := (cL1 Z (w64 (0 - (tbf71_4 d))) (tbf71_4 d))) (ca := []) rfl ⟨rfl, rfl, rfl, trivial⟩ en59 (f59_ok _ _ _ bW hs) ?_
     clear hs; rintro _ w ⟨cf, bM, hs, rfl⟩
     refine oG (yO rfl rfl (dT G)) <| oV (x_not (b := bs) rfl) rfl <| oG (yO rfl rfl (bF W)) <| oV (xPt (v := .bool (!bs)) ((rfl : ev _ _ _ = _).trans (congrArg Value.bool (dT G))) rfl) rfl <| oV (xPf (v := .bool (!bs)) ((rfl : ev _ _ _ = _).trans (congrArg Value.bool (bF W))) rfl) rfl <| oN ?_
     obtain rfl := oJ ae
     exact ⟨cf, rfl, bM, hs, rfl, aE, ao, aC, af⟩
   rw [if_neg G] at ae
   refine oO (b := false) (yO rfl rfl (dF G)) rfl <| oO (b := false) (yO rfl rfl (dF G)) rfl <| oO (b := false) (yO rfl rfl (dF G)) rfl <| oO (b := false) (yO rfl rfl (dF G)) rfl <| oO (b := false) (yO rfl rfl (dF G)) rfl <| oO (b := false) (yO rfl rfl (dF G)) rfl <| oO (b := false) (yO rfl rfl (dF G)) rfl <| oO (b := false) (yO rfl rfl (dF G)) rfl <| oO (b := false) (yO rfl rfl (dF G)) rfl <| oG (yO rfl rfl (bF W)) <| oV (xPf (v := .bool false) ((rfl : ev _ _ _ = _).trans (congrArg Value.bool (dF G))) rfl) rfl <| oV (xPf (v := .bool false) ((rfl : ev _ _ _ = _).trans (congrArg Value.bool (bF W))) rfl) rfl ?_
   refine oN ?_
   obtain rfl := oJ ae
   exact ⟨br, rfl, iR, hs, rfl, aE, ao, aC, af⟩
 clear ae hs
 rintro f ds w ⟨aw, rfl, D, hs, htbb41, ap, z, bP, am⟩
 refine oN <| sK ?_
 by_cases a4 : bB = true
 · rw [if_pos a4] at hm
   refine cIt htbb41 a4 <| cQ <| cR <| asB rfl <| oN <| sK <| cw_ret <| seqK_r <| rK (rs := [.tmp 6]) (vs := [.bool false]) (.inr rfl) rfl ⟨rfl, trivial⟩ ?_
   obtain rfl := oJ hm
   replace hs := hs.erase 0
   replace hs := hs.erase 0
   replace hs := hs.erase 0
   exact ⟨aw, (((((ad.trans U).trans y).trans B).trans E).trans D), hs, rfl⟩
 rw [if_neg a4] at hm
 refine cIf htbb41 (bF a4) <| cw_skip <| sQR <| cQ ?_
 by_cases h : (tbf71_3 d) = true
 · rw [if_pos h] at hm
   by_cases t : ¬ ((s.length : Int) = Q)
   · rw [if_pos t] at hm
     refine cD mixed rfl (fun f0 L f w => ∃ (i : Im), Im.le aw i ∧ f = frL [(66, 0, pQ Y 3), (67, 1, .bool (tbf71_3 d)), (68, 2, .bool (tbf71_3 d)), (69, 3, pQ b3 11), (70, 4, .slice x s.length u), (71, 5, iN (s.length : Int)), (72, 6, pQ b1 0), (73, 7, iN Q), (74, 8, .bool (decide (¬ ((s.length : Int) = Q)))), (75, 9, .bool (decide (¬ ((s.length : Int) = Q)))), (76, 10, undef), (77, 11, undef), (78, 12, undef), (79, 13, undef), (80, 14, .bool true), (81, 15, .bool true), (82, 16, undef), (83, 17, undef), (84, 18, undef), (85, 19, undef), (86, 20, undef), (87, 21, undef), (88, 22, .bool true), (89, 23, .bool true)] L f0 ∧ Sat i (blk Y 164 [.bool (tbf71_0 d), .bool (tbf71_1 d), .bool (tbf71_2 d), .bool (tbf71_3 d), iN (tbf71_4 d), (tbf71_5 d)] :: blk b5 165 (.bool false :: .bool false :: .bool false :: .bool false :: iN 0 :: .nilFunc :: .bool true :: .bool false :: .bool false :: .bool true :: iN 2147483648 :: .func (.func 75) #[] #[] :: .bool false :: .bool true :: .bool false :: .bool true :: iN 0 :: .func (.func 76) #[] #[] :: .bool true :: .bool false :: .bool false :: .bool false :: iN 2147483648 :: .func (.func 77) #[] #[] :: .bool true :: .bool true :: .bool false :: .bool false :: iN 0 :: .func (.func 78) #[] #[] :: .bool true :: .bool true :: .bool true :: .bool false :: iN 0 :: .func (.func 79) #[] #[] :: .bool true :: .bool true :: .bool false :: .bool false :: iN 65536 :: .func (.func 80) #[] #[] :: []) :: blk b3 168 (cL13 d ac ab aa Z O N M K H C x s.length u) :: F) w) ⟨aw, iR, (frL_ff _).symm, hs.drew⟩ ⟨?_, ?_, ?_, ?_, ?_, ?_, ?_, ?_, ?_, ?_, ?_, ?_, ?_, ?_, ?_, ?_, ?_, ?_, ?_, ?_, ?_, ?_, ?_, ?_, trivial⟩ ?_
     all_goals clear hs
     · rintro L f w _ hL ⟨i, c, rfl, hs⟩
       refine oF (b := Y) (o := 0) fl164_3 am ?_
       exact oN ⟨rfl, rfl, i, c, fS rfl rfl, hs⟩
     · rintro L f w ⟨aW, _⟩ hL ⟨i, c, rfl, hs⟩
       refine ld1 (k := 0) hs rfl (fG rfl aW) ty4 rfl ?_
       exact oN ⟨rfl, rfl, i, c, fS rfl rfl, hs⟩
     · rintro L f w ⟨aV, _⟩ hL ⟨i, c, rfl, hs⟩
       refine mB (fG rfl aV) ?_
       exact oN ⟨rfl, rfl, i, c, fS rfl rfl, hs⟩
     · rintro L f w ⟨j, _⟩ hL ⟨i, c, rfl, hs⟩
       refine oG (yO rfl (fG rfl j) h) <| oF (b := b3) (o := 0) fl168_7 z ?_
       exact oN ⟨rfl, rfl, i, c, fS rfl rfl, hs⟩
     · rintro L f w ⟨bp, j, _⟩ hL ⟨i, c, rfl, hs⟩
       refine oG (yO rfl (fG rfl j) h) <| ld1 (k := 2) hs rfl (fG rfl bp) ty24 rfl ?_
       exact oN ⟨rfl, rfl, i, c, fS rfl rfl, hs⟩
     · rintro L f w ⟨bo, j, _⟩ hL ⟨i, c, rfl, hs⟩
       refine oG (yO rfl (fG rfl j) h) <| oV (x_len sl24 (fG rfl bo)) rfl ?_
       exact oN ⟨rfl, rfl, i, c, fS rfl rfl, hs⟩
     · rintro L f w ⟨j, _⟩ hL ⟨i, c, rfl, hs⟩
       refine oG (yO rfl (fG rfl j) h) <| oF (b := b1) (o := 0) fl46_0 ap ?_
       exact oN ⟨rfl, rfl, i, c, fS rfl rfl, hs⟩
     · rintro L f w ⟨bm, j, _⟩ hL ⟨i, c, rfl, hs⟩
       refine oG (yO rfl (fG rfl j) h) ?_
       replace R := R.mono ((((y.trans B).trans E).trans D).trans c)
       refine ld1I hs R (fG rfl bm) ty3 rfl ?_
       exact oN ⟨rfl, rfl, i, c, fS rfl rfl, hs⟩
     · rintro L f w ⟨bn, bl, j, _⟩ hL ⟨i, c, rfl, hs⟩
       refine oG (yO rfl (fG rfl j) h) <| oV (x_neqD (fG rfl bn) (fG rfl bl)) rfl ?_
       exact oN ⟨rfl, rfl, i, c, fS rfl rfl, hs⟩
     · rintro L f w ⟨bk, j, _, _⟩ hL ⟨i, c, rfl, hs⟩
       refine oG (yO rfl (fG rfl j) h) <| mB (fG rfl bk) ?_
       exact oN ⟨rfl, rfl, i, c, fS rfl rfl, hs⟩
     · rintro L f w ⟨A, _⟩ hL ⟨i, c, rfl, hs⟩
       refine oO (b := true) (yO rfl (fG rfl A) (dT t)) rfl ?_
       exact oN ⟨rfl, rfl, i, c, fS rfl rfl, hs⟩
     · rintro L f w ⟨aT, A, _⟩ hL ⟨i, c, rfl, hs⟩
       refine oO (b := true) (yO rfl (fG rfl A) (dT t)) rfl ?_
       exact oN ⟨rfl, rfl, i, c, fS rfl rfl, hs⟩
     · rintro L f w ⟨aS, A, _, _⟩ hL ⟨i, c, rfl, hs⟩
       refine oO (b := true) (yO rfl (fG rfl A) (dT t)) rfl ?_
       exact oN ⟨rfl, rfl, i, c, fS rfl rfl, hs⟩
     · rintro L f w ⟨aq, A, _⟩ hL ⟨i, c, rfl, hs⟩
       refine oO (b := true) (yO rfl (fG rfl A) (dT t)) rfl ?_
       exact oN ⟨rfl, rfl, i, c, fS rfl rfl, hs⟩
     · rintro L f w ⟨A, aR, j, _⟩ hL ⟨i, c, rfl, hs⟩
       refine oG (yO rfl (fG rfl j) h) <| oV (x_pick_tE (v := .bool true) (fG rfl A) (dT t) rfl) rfl ?_
       exact oN ⟨rfl, rfl, i, c, fS rfl rfl, hs⟩
     · rintro L f w ⟨aI, aq, j, _⟩ hL ⟨i, c, rfl, hs⟩
       refine oG (yO rfl (fG rfl j) h) <| mB (fG rfl aI) ?_
       exact oN ⟨rfl, rfl, i, c, fS rfl rfl, hs⟩
     · rintro L f w ⟨l, _⟩ hL ⟨i, c, rfl, hs⟩
       refine oO (b := true) (yO rfl (fG rfl l) rfl) rfl ?_
       exact oN ⟨rfl, rfl, i, c, fS rfl rfl, hs⟩
     · rintro L f w ⟨bb, l, _⟩ hL ⟨i, c, rfl, hs⟩
       refine oO (b := true) (yO rfl (fG rfl l) rfl) rfl ?_
       exact oN ⟨rfl, rfl, i, c, fS rfl rfl, hs⟩
     · rintro L f w ⟨ba, l, _, _⟩ hL ⟨i, c, rfl, hs⟩
       refine oO (b := true) (yO rfl (fG rfl l) rfl) rfl ?_
       exact oN ⟨rfl, rfl, i, c, fS rfl rfl, hs⟩
     · rintro L f w ⟨l, _⟩ hL ⟨i, c, rfl, hs⟩
       refine oO (b := true) (yO rfl (fG rfl l) rfl) rfl ?_
       exact oN ⟨rfl, rfl, i, c, fS rfl rfl, hs⟩
     · rintro L f w ⟨a8, l, _⟩ hL ⟨i, c, rfl, hs⟩
       refine oO (b := true) (yO rfl (fG rfl l) rfl) rfl ?_
       exact oN ⟨rfl, rfl, i, c, fS rfl rfl, hs⟩
     · rintro L f w ⟨a9, a7, l, _⟩ hL ⟨i, c, rfl, hs⟩
       refine oO (b := true) (yO rfl (fG rfl l) rfl) rfl ?_
       exact oN ⟨rfl, rfl, i, c, fS rfl rfl, hs⟩
     · rintro L f w ⟨l, a6, j, _⟩ hL ⟨i, c, rfl, hs⟩
       refine oG (yO rfl (fG rfl j) h) <| oV (xPt (v := .bool true) (fG rfl l) rfl) rfl ?_
       exact oN ⟨rfl, rfl, i, c, fS rfl rfl, hs⟩
     · rintro L f w ⟨j, aH, _⟩ hL ⟨i, c, rfl, hs⟩
       refine oV (x_pick_tE (v := .bool true) (fG rfl j) h (fG rfl aH)) rfl ?_
       exact oN ⟨rfl, rfl, i, c, fS rfl rfl, hs⟩
     rintro L f w hall ⟨b4, aF, rfl, hs⟩
     rw [frL_tt _ rfl hall]
     refine sK <| cw_cond_t rfl <| cQ <| cR <| asB rfl <| oN <| sK <| cw_ret <| seqK_r <| rK (rs := [.tmp 6]) (vs := [.bool false]) (.inr rfl) rfl ⟨rfl, trivial⟩ ?_
     obtain rfl := oJ hm
     replace hs := hs.erase 0
     replace hs := hs.erase 0
     replace hs := hs.erase 0
     exact ⟨b4, ((((((ad.trans U).trans y).trans B).trans E).trans D).trans aF), hs, rfl⟩
   rw [if_neg t] at hm
   obtain ⟨av, bE, hm⟩ := bS hm
   by_cases m : av < (-1)
   · rw [if_pos m] at hm
     refine cD mixed rfl (fun f0 L f w => ∃ (i : Im), Im.le aw i ∧ f = frL [(66, 0, pQ Y 3), (67, 1, .bool (tbf71_3 d)), (68, 2, .bool (tbf71_3 d)), (69, 3, pQ b3 11), (70, 4, .slice x s.length u), (71, 5, iN (s.length : Int)), (72, 6, pQ b1 0), (73, 7, iN Q), (74, 8, .bool (decide (¬ ((s.length : Int) = Q)))), (75, 9, .bool (decide (¬ ((s.length : Int) = Q)))), (76, 10, pQ b3 11), (77, 11, .slice x s.length u), (78, 12, iN av), (79, 13, .bool (decide (av < (-1)))), (80, 14, .bool (decide (av < (-1)))), (81, 15, .bool (decide (av < (-1)))), (82, 16, undef), (83, 17, undef), (84, 18, undef), (85, 19, undef), (86, 20, undef), (87, 21, undef), (88, 22, .bool true), (89, 23, .bool true)] L f0 ∧ Sat i (blk Y 164 [.bool (tbf71_0 d), .bool (tbf71_1 d), .bool (tbf71_2 d), .bool (tbf71_3 d), iN (tbf71_4 d), (tbf71_5 d)] :: blk b5 165 (.bool false :: .bool false :: .bool false :: .bool false :: iN 0 :: .nilFunc :: .bool true :: .bool false :: .bool false :: .bool true :: iN 2147483648 :: .func (.func 75) #[] #[] :: .bool false :: .bool true :: .bool false :: .bool true :: iN 0 :: .func (.func 76) #[] #[] :: .bool true :: .bool false :: .bool false :: .bool false :: iN 2147483648 :: .func (.func 77) #[] #[] :: .bool true :: .bool true :: .bool false :: .bool false :: iN 0 :: .func (.func 78) #[] #[] :: .bool true :: .bool true :: .bool true :: .bool false :: iN 0 :: .func (.func 79) #[] #[] :: .bool true :: .bool true :: .bool false :: .bool false :: iN 65536 :: .func (.func 80) #[] #[] :: []) :: blk b3 168 (cL13 d ac ab aa Z O N M K H C x s.length u) :: F) w) ⟨aw, iR, (frL_ff _).symm, hs.drew⟩ ⟨?_, ?_, ?_, ?_, ?_, ?_, ?_, ?_, ?_, ?_, ?_, ?_, ?_, ?_, ?_, ?_, ?_, ?_, ?_, ?_, ?_, ?_, ?_, ?_, trivial⟩ ?_
     all_goals clear hs
     · rintro L f w _ hL ⟨i, c, rfl, hs⟩
       refine oF (b := Y) (o := 0) fl164_3 am ?_
       exact oN ⟨rfl, rfl, i, c, fS rfl rfl, hs⟩
     · rintro L f w ⟨aW, _⟩ hL ⟨i, c, rfl, hs⟩
       refine ld1 (k := 0) hs rfl (fG rfl aW) ty4 rfl ?_
       exact oN ⟨rfl, rfl, i, c, fS rfl rfl, hs⟩
     · rintro L f w ⟨aV, _⟩ hL ⟨i, c, rfl, hs⟩
       refine mB (fG rfl aV) ?_
       exact oN ⟨rfl, rfl, i, c, fS rfl rfl, hs⟩
     · rintro L f w ⟨j, _⟩ hL ⟨i, c, rfl, hs⟩
       refine oG (yO rfl (fG rfl j) h) <| oF (b := b3) (o := 0) fl168_7 z ?_
       exact oN ⟨rfl, rfl, i, c, fS rfl rfl, hs⟩
     · rintro L f w ⟨bp, j, _⟩ hL ⟨i, c, rfl, hs⟩
       refine oG (yO rfl (fG rfl j) h) <| ld1 (k := 2) hs rfl (fG rfl bp) ty24 rfl ?_
       exact oN ⟨rfl, rfl, i, c, fS rfl rfl, hs⟩
     · rintro L f w ⟨bo, j, _⟩ hL ⟨i, c, rfl, hs⟩
       refine oG (yO rfl (fG rfl j) h) <| oV (x_len sl24 (fG rfl bo)) rfl ?_
       exact oN ⟨rfl, rfl, i, c, fS rfl rfl, hs⟩
     · rintro L f w ⟨j, _⟩ hL ⟨i, c, rfl, hs⟩
       refine oG (yO rfl (fG rfl j) h) <| oF (b := b1) (o := 0) fl46_0 ap ?_
       exact oN ⟨rfl, rfl, i, c, fS rfl rfl, hs⟩
     · rintro L f w ⟨bm, j, _⟩ hL ⟨i, c, rfl, hs⟩
       refine oG (yO rfl (fG rfl j) h) ?_
       replace R := R.mono ((((y.trans B).trans E).trans D).trans c)
       refine ld1I hs R (fG rfl bm) ty3 rfl ?_
       exact oN ⟨rfl, rfl, i, c, fS rfl rfl, hs⟩
     · rintro L f w ⟨bn, bl, j, _⟩ hL ⟨i, c, rfl, hs⟩
       refine oG (yO rfl (fG rfl j) h) <| oV (x_neqD (fG rfl bn) (fG rfl bl)) rfl ?_
       exact oN ⟨rfl, rfl, i, c, fS rfl rfl, hs⟩
     · rintro L f w ⟨bk, j, _, _⟩ hL ⟨i, c, rfl, hs⟩
       refine oG (yO rfl (fG rfl j) h) <| mB (fG rfl bk) ?_
       exact oN ⟨rfl, rfl, i, c, fS rfl rfl, hs⟩
     · rintro L f w ⟨A, _⟩ hL ⟨i, c, rfl, hs⟩
       refine oG (yO rfl (fG rfl A) (dF t)) <| oF (b := b3) (o := 0) fl168_7 z ?_
       exact oN ⟨rfl, rfl, i, c, fS rfl rfl, hs⟩
     · rintro L f w ⟨aT, A, _⟩ hL ⟨i, c, rfl, hs⟩
       refine oG (yO rfl (fG rfl A) (dF t)) <| ld1 (k := 2) hs rfl (fG rfl aT) ty24 rfl ?_
       exact oN ⟨rfl, rfl, i, c, fS rfl rfl, hs⟩
     · rintro L f w ⟨aS, A, _, _⟩ hL ⟨i, c, rfl, hs⟩
       refine oG (yO rfl (fG rfl A) (dF t)) ?_
       replace X := X.mono ((((((ad.trans U).trans y).trans B).trans E).trans D).trans c)
       refine oC (fi := []) (vs := [.slice x s.length u]) (ca := []) rfl ⟨(fG rfl aS), trivial⟩ en111 (f111_ok _ bE hs X) ?_
       clear hs; rintro _ w ⟨bq, ak, hs, rfl⟩
       exact oN ⟨rfl, rfl, bq, (c.trans ak), fS rfl rfl, hs⟩
     · rintro L f w ⟨aq, A, _⟩ hL ⟨i, c, rfl, hs⟩
       refine oG (yO rfl (fG rfl A) (dF t)) <| oV (x_lss (fG rfl aq) rfl) rfl ?_
       exact oN ⟨rfl, rfl, i, c, fS rfl rfl, hs⟩
     · rintro L f w ⟨A, aR, j, _⟩ hL ⟨i, c, rfl, hs⟩
       refine oG (yO rfl (fG rfl j) h) <| oV (x_pick_fE (v := .bool (decide (av < (-1)))) (fG rfl A) (dF t) (fG rfl aR)) rfl ?_
       exact oN ⟨rfl, rfl, i, c, fS rfl rfl, hs⟩
     · rintro L f w ⟨aI, aq, j, _⟩ hL ⟨i, c, rfl, hs⟩
       refine oG (yO rfl (fG rfl j) h) <| mB (fG rfl aI) ?_
       exact oN ⟨rfl, rfl, i, c, fS rfl rfl, hs⟩
     · rintro L f w ⟨l, _⟩ hL ⟨i, c, rfl, hs⟩
       refine oO (b := true) (yO rfl (fG rfl l) (dT m)) rfl ?_
       exact oN ⟨rfl, rfl, i, c, fS rfl rfl, hs⟩
     · rintro L f w ⟨bb, l, _⟩ hL ⟨i, c, rfl, hs⟩
       refine oO (b := true) (yO rfl (fG rfl l) (dT m)) rfl ?_
       exact oN ⟨rfl, rfl, i, c, fS rfl rfl, hs⟩
     · rintro L f w ⟨ba, l, _, _⟩ hL ⟨i, c, rfl, hs⟩
       refine oO (b := true) (yO rfl (fG rfl l) (dT m)) rfl ?_
       exact oN ⟨rfl, rfl, i, c, fS rfl rfl, hs⟩
     · rintro L f w ⟨l, _⟩ hL ⟨i, c, rfl, hs⟩
       refine oO (b := true) (yO rfl (fG rfl l) (dT m)) rfl ?_
       exact oN ⟨rfl, rfl, i, c, fS rfl rfl, hs⟩
     · rintro L f w ⟨a8, l, _⟩ hL ⟨i, c, rfl, hs⟩
       refine oO (b := true) (yO rfl (fG rfl l) (dT m)) rfl ?_
       exact oN ⟨rfl, rfl, i, c, fS rfl rfl, hs⟩
     · rintro L f w ⟨a9, a7, l, _⟩ hL ⟨i, c, rfl, hs⟩
       refine oO (b := true) (yO rfl (fG rfl l) (dT m)) rfl ?_
       exact oN ⟨rfl, rfl, i, c, fS rfl rfl, hs⟩
     · rintro L f w ⟨l, a6, j, _⟩ hL ⟨i, c, rfl, hs⟩
       refine oG (yO rfl (fG rfl j) h) <| oV (x_pick_tE (v := .bool true) (fG rfl l) (dT m) rfl) rfl ?_
       exact oN ⟨rfl, rfl, i, c, fS rfl rfl, hs⟩
     · rintro L f w ⟨j, aH, _⟩ hL ⟨i, c, rfl, hs⟩
       refine oV (x_pick_tE (v := .bool true) (fG rfl j) h (fG rfl aH)) rfl ?_
       exact oN ⟨rfl, rfl, i, c, fS rfl rfl, hs⟩
     rintro L f w hall ⟨cj, bL, rfl, hs⟩
     rw [frL_tt _ rfl hall]
     refine sK <| cw_cond_t rfl <| cQ <| cR <| asB rfl <| oN <| sK <| cw_ret <| seqK_r <| rK (rs := [.tmp 6]) (vs := [.bool false]) (.inr rfl) rfl ⟨rfl, trivial⟩ ?_
     obtain rfl := oJ hm
     replace hs := hs.erase 0
     replace hs := hs.erase 0
     replace hs := hs.erase 0
     exact ⟨cj, ((((((ad.trans U).trans y).trans B).trans E).trans D).trans bL), hs, rfl⟩
   rw [if_neg m] at hm
   obtain ⟨aJ, bV, hm⟩ := bS hm
   refine cD mixed rfl (fun f0 L f w => ∃ (i : Im), Im.le aw i ∧ f = frL [(66, 0, pQ Y 3), (67, 1, .bool (tbf71_3 d)), (68, 2, .bool (tbf71_3 d)), (69, 3, pQ b3 11), (70, 4, .slice x s.length u), (71, 5, iN (s.length : Int)), (72, 6, pQ b1 0), (73, 7, iN Q), (74, 8, .bool (decide (¬ ((s.length : Int) = Q)))), (75, 9, .bool (decide (¬ ((s.length : Int) = Q)))), (76, 10, pQ b3 11), (77, 11, .slice x s.length u), (78, 12, iN av), (79, 13, .bool (decide (av < (-1)))), (80, 14, .bool (decide (av < (-1)))), (81, 15, .bool (decide (av < (-1)))), (82, 16, pQ b3 11), (83, 17, .slice x s.length u), (84, 18, iN aJ), (85, 19, pQ b1 2), (86, 20, iN V), (87, 21, .bool (decide (V ≤ aJ))), (88, 22, .bool (decide (V ≤ aJ))), (89, 23, .bool (decide (V ≤ aJ)))] L f0 ∧ Sat i (blk Y 164 [.bool (tbf71_0 d), .bool (tbf71_1 d), .bool (tbf71_2 d), .bool (tbf71_3 d), iN (tbf71_4 d), (tbf71_5 d)] :: blk b5 165 (.bool false :: .bool false :: .bool false :: .bool false :: iN 0 :: .nilFunc :: .bool true :: .bool false :: .bool false :: .bool true :: iN 2147483648 :: .func (.func 75) #[] #[] :: .bool false :: .bool true :: .bool false :: .bool true :: iN 0 :: .func (.func 76) #[] #[] :: .bool true :: .bool false :: .bool false :: .bool false :: iN 2147483648 :: .func (.func 77) #[] #[] :: .bool true :: .bool true :: .bool false :: .bool false :: iN 0 :: .func (.func 78) #[] #[] :: .bool true :: .bool true :: .bool true :: .bool false :: iN 0 :: .func (.func 79) #[] #[] :: .bool true :: .bool true :: .bool false :: .bool false :: iN 65536 :: .func (.func 80) #[] #[] :: []) :: blk b3 168 (cL13 d ac ab aa Z O N M K H C x s.length u) :: F) w) ⟨aw, iR, (frL_ff _).symm, hs.drew⟩ ⟨?_, ?_, ?_, ?_, ?_, ?_, ?_, ?_, ?_, ?_, ?_, ?_, ?_, ?_, ?_, ?_, ?_, ?_, ?_, ?_, ?_, ?_, ?_, ?_, trivial⟩ ?_
   all_goals clear hs
   · rintro L f w _ hL ⟨i, c, rfl, hs⟩
     refine oF (b := Y) (o := 0) fl164_3 am ?_
     exact oN ⟨rfl, rfl, i, c, fS rfl rfl, hs⟩
   · rintro L f w ⟨aW, _⟩ hL ⟨i, c, rfl, hs⟩
     refine ld1 (k := 0) hs rfl (fG rfl aW) ty4 rfl ?_
     exact oN ⟨rfl, rfl, i, c, fS rfl rfl, hs⟩
   · rintro L f w ⟨aV, _⟩ hL ⟨i, c, rfl, hs⟩
     refine mB (fG rfl aV) ?_
     exact oN ⟨rfl, rfl, i, c, fS rfl rfl, hs⟩
   · rintro L f w ⟨j, _⟩ hL ⟨i, c, rfl, hs⟩
     refine oG (yO rfl (fG rfl j) h) <| oF (b := b3) (o := 0) fl168_7 z ?_
     exact oN ⟨rfl, rfl, i, c, fS rfl rfl, hs⟩
   · rintro L f w ⟨bp, j, _⟩ hL ⟨i, c, rfl, hs⟩
     refine oG (yO rfl (fG rfl j) h) <| ld1 (k := 2) hs rfl (fG rfl bp) ty24 rfl ?_
     exact oN ⟨rfl, rfl, i, c, fS rfl rfl, hs⟩
   · rintro L f w ⟨bo, j, _⟩ hL ⟨i, c, rfl, hs⟩
     refine oG (yO rfl (fG rfl j) h) <| oV (x_len sl24 (fG rfl bo)) rfl ?_
     exact oN ⟨rfl, rfl, i, c, fS rfl rfl, hs⟩
   · rintro L f w ⟨j, _⟩ hL ⟨i, c, rfl, hs⟩
     refine oG (yO rfl (fG rfl j) h) <| oF (b := b1) (o := 0) fl46_0 ap ?_
     exact oN ⟨rfl, rfl, i, c, fS rfl rfl, hs⟩
   · rintro L f w ⟨bm, j, _⟩ hL ⟨i, c, rfl, hs⟩
     refine oG (yO rfl (fG rfl j) h) ?_
     replace R := R.mono ((((y.trans B).trans E).trans D).trans c)
     refine ld1I hs R (fG rfl bm) ty3 rfl ?_
     exact oN ⟨rfl, rfl, i, c, fS rfl rfl, hs⟩
   · rintro L f w ⟨bn, bl, j, _⟩ hL ⟨i, c, rfl, hs⟩
     refine oG (yO rfl (fG rfl j) h) <| oV (x_neqD (fG rfl bn) (fG rfl bl)) rfl ?_
     exact oN ⟨rfl, rfl, i, c, fS rfl rfl, hs⟩
   · rintro L f w ⟨bk, j, _, _⟩ hL ⟨i, c, rfl, hs⟩
     refine oG (yO rfl (fG rfl j) h) <| mB (fG rfl bk) ?_
     exact oN ⟨rfl, rfl, i, c, fS rfl rfl, hs⟩
   · rintro L f w ⟨A, _⟩ hL ⟨i, c, rfl, hs⟩
     refine oG (yO rfl (fG rfl A) (dF t)) <| oF (b := b3) (o := 0) fl168_7 z ?_
     exact oN ⟨rfl, rfl, i, c, fS rfl rfl, hs⟩
   · rintro L f w ⟨aT, A, _⟩ hL ⟨i, c, rfl, hs⟩
     refine oG (yO rfl (fG rfl A) (dF t)) <| ld1 (k := 2) hs rfl (fG rfl aT) ty24 rfl ?_
     exact oN ⟨rfl, rfl, i, c, fS rfl rfl, hs⟩
   · rintro L f w ⟨aS, A, _, _⟩ hL ⟨i, c, rfl, hs⟩
     refine oG (yO rfl (fG rfl A) (dF t)) ?_
     replace X := X.mono ((((((ad.trans U).trans y).trans B).trans E).trans D).trans c)
     refine oC (fi := []) (vs := [.slice x s.length u]) (ca := []) rfl ⟨(fG rfl aS), trivial⟩ en111 (f111_ok _ bE hs X) ?_
     clear hs; rintro _ w ⟨bq, ak, hs, rfl⟩
     exact oN ⟨rfl, rfl, bq, (c.trans ak), fS rfl rfl, hs⟩
   · rintro L f w ⟨aq, A, _⟩ hL ⟨i, c, rfl, hs⟩
     refine oG (yO rfl (fG rfl A) (dF t)) <| oV (x_lss (fG rfl aq) rfl) rfl ?_
     exact oN ⟨rfl, rfl, i, c, fS rfl rfl, hs⟩
   · rintro L f w ⟨A, aR, j, _⟩ hL ⟨i, c, rfl, hs⟩
     refine oG (yO rfl (fG rfl j) h) <| oV (x_pick_fE (v := .bool (decide (av < (-1)))) (fG rfl A) (dF t) (fG rfl aR)) rfl ?_
     exact oN ⟨rfl, rfl, i, c, fS rfl rfl, hs⟩
   · rintro L f w ⟨aI, aq, j, _⟩ hL ⟨i, c, rfl, hs⟩
     refine oG (yO rfl (fG rfl j) h) <| mB (fG rfl aI) ?_
     exact oN ⟨rfl, rfl, i, c, fS rfl rfl, hs⟩
   · rintro L f w ⟨l, _⟩ hL ⟨i, c, rfl, hs⟩
     refine oG (yO rfl (fG rfl l) (dF m)) <| oF (b := b3) (o := 0) fl168_7 z ?_
     exact oN ⟨rfl, rfl, i, c, fS rfl rfl, hs⟩
   · rintro L f w ⟨bb, l, _⟩ hL ⟨i, c, rfl, hs⟩
     refine oG (yO rfl (fG rfl l) (dF m)) <| ld1 (k := 2) hs rfl (fG rfl bb) ty24 rfl ?_
     exact oN ⟨rfl, rfl, i, c, fS rfl rfl, hs⟩
   · rintro L f w ⟨ba, l, _, _⟩ hL ⟨i, c, rfl, hs⟩
     refine oG (yO rfl (fG rfl l) (dF m)) ?_
     replace X := X.mono ((((((ad.trans U).trans y).trans B).trans E).trans D).trans c)
     refine oC (fi := []) (vs := [.slice x s.length u]) (ca := []) rfl ⟨(fG rfl ba), trivial⟩ en112 (f112_ok _ bV hs X) ?_
     clear hs; rintro _ w ⟨ce, bK, hs, rfl⟩
     exact oN ⟨rfl, rfl, ce, (c.trans bK), fS rfl rfl, hs⟩
   · rintro L f w ⟨l, _⟩ hL ⟨i, c, rfl, hs⟩
     refine oG (yO rfl (fG rfl l) (dF m)) <| oF (b := b1) (o := 0) fl46_2 ap ?_
     exact oN ⟨rfl, rfl, i, c, fS rfl rfl, hs⟩
   · rintro L f w ⟨a8, l, _⟩ hL ⟨i, c, rfl, hs⟩
     refine oG (yO rfl (fG rfl l) (dF m)) ?_
     replace R := R.mono ((((y.trans B).trans E).trans D).trans c)
     refine ld1I hs R (fG rfl a8) ty3 rfl ?_
     exact oN ⟨rfl, rfl, i, c, fS rfl rfl, hs⟩
   · rintro L f w ⟨a9, a7, l, _⟩ hL ⟨i, c, rfl, hs⟩
     refine oG (yO rfl (fG rfl l) (dF m)) <| oV (x_geq (fG rfl a9) (fG rfl a7)) rfl ?_
     exact oN ⟨rfl, rfl, i, c, fS rfl rfl, hs⟩
   · rintro L f w ⟨l, a6, j, _⟩ hL ⟨i, c, rfl, hs⟩
     refine oG (yO rfl (fG rfl j) h) <| oV (x_pick_fE (v := .bool (decide (V ≤ aJ))) (fG rfl l) (dF m) (fG rfl a6)) rfl ?_
     exact oN ⟨rfl, rfl, i, c, fS rfl rfl, hs⟩
   · rintro L f w ⟨j, aH, _⟩ hL ⟨i, c, rfl, hs⟩
     refine oV (x_pick_tE (v := .bool (decide (V ≤ aJ))) (fG rfl j) h (fG rfl aH)) rfl ?_
     exact oN ⟨rfl, rfl, i, c, fS rfl rfl, hs⟩
   rintro L f w hall ⟨ci, aL, rfl, hs⟩
   rw [frL_tt _ rfl hall]
   refine sK ?_
   by_cases a2 : V ≤ aJ
   · rw [if_pos a2] at hm
     refine cIt rfl (dT a2) <| cQ <| cR <| asB rfl <| oN <| sK <| cw_ret <| seqK_r <| rK (rs := [.tmp 6]) (vs := [.bool false]) (.inr rfl) rfl ⟨rfl, trivial⟩ ?_
     obtain rfl := oJ hm
     replace hs := hs.erase 0
     replace hs := hs.erase 0
     replace hs := hs.erase 0
     exact ⟨ci, ((((((ad.trans U).trans y).trans B).trans E).trans D).trans aL), hs, rfl⟩
   rw [if_neg a2] at hm
   refine cIf rfl (dF a2) <| cw_skip <| sQR <| cR <| ow_buildSlice (vp := [(0, iN 0)]) (cs := [iN 0]) hs sl24 ty3 rfl ⟨rfl, rfl, trivial⟩ (by decide) rfl (by decide) ?_
   clear hs; intro ar b0 w aU hs aP
   replace aP : Rs b0 1 ar [0].length 1 ([0].flatMap e64) := aP
   refine oU (vp := [(0, iN 1), (1, iN 1), (2, .slice ar ([0].length) 1)]) (cs := (cL0 1 1 ar ([0].length) 1)) st26 ty26 ⟨rfl, rfl, rfl, rfl, rfl, rfl, trivial⟩ rfl <| ow_alloc hs ty26 rfl ?_
   clear hs; intro ck w hs
   refine oS (k := 0) (vs := (cL0 1 1 ar ([0].length) 1)) (cs' := (cL0 1 1 ar ([0].length) 1)) hs rfl rfl rfl ty26 rfl rfl (nLe rfl) rfl rfl ?_
   clear hs; intro w hs
   refine oN <| sQR <| cR <| asI rfl <| oN <| sQR <| cQ <| cR <| oF (b := b3) (o := 0) fl168_0 z <| ld1 (k := 3) hs rfl rfl ty5 rfl ?_
   refine oN <| sK <| cw_block <| cQ <| cR <| oV (x_eql rfl rfl) rfl <| asB rfl <| oN <| sK ?_
   by_cases a0 : d = 4
   · rw [if_pos a0] at hm
     refine cIt rfl (dT a0) <| cR <| oL (k := 0) (vs := (cL0 1 1 ar ([0].length) 1)) (v := .agg (cL0 1 1 ar ([0].length) 1).toArray) hs rfl rfl ty26 rfl rfl rfl <| oF (b := b3) (o := 0) fl168_5 z <| oL (k := 3) (vs := (cL3 O N M K H)) (v := .agg (cL3 O N M K H).toArray) hs rfl rfl ty35 rfl rfl rfl ?_
     obtain ⟨ay, bR, hm⟩ := bS hm
     refine oC (fi := []) (vs := [.agg (cL0 1 1 ar ([0].length) 1).toArray, .agg (cL3 O N M K H).toArray]) (ca := []) rfl ⟨rfl, rfl, trivial⟩ en49 (f49_ok _ _ _ _ _ _ _ _ bR hs aP) ?_
     clear hs; rintro _ w ⟨cb, bh, bd, bH, hs, rfl⟩
     refine oV (xM (v := .tuple #[.agg (cL0 ay.1 ay.2.1 bh ay.2.2.1.length bd).toArray, iN ay.2.2.2]) rfl) rfl <| oV (xE (v := .agg (cL0 ay.1 ay.2.1 bh ay.2.2.1.length bd).toArray) rfl rfl) rfl <| oV (xE (v := iN ay.2.2.2) rfl rfl) rfl <| asI rfl <| oN <| blockK_n <| sQR <| cR <| mI rfl <| oV (x_eql rfl rfl) rfl <| asB rfl ?_
     refine oN <| sK <| cw_ret <| rK (rs := [.tmp 6]) (vs := [.bool (decide (ay.2.2.2 = 0))]) (.inr rfl) rfl ⟨rfl, trivial⟩ ?_
     obtain rfl := oJ hm
     replace hs := hs.erase 0
     replace hs := hs.erase 0
     replace hs := hs.erase 0
     replace hs := hs.erase 0
     replace hs := hs.erase 0
     exact ⟨cb, ((((((((ad.trans U).trans y).trans B).trans E).trans D).trans aL).trans aU).trans bH), hs, rfl⟩
   rw [if_neg a0] at hm
   refine cIf rfl (dF a0) <| cQ <| cR <| oV (x_eql rfl rfl) rfl <| asB rfl <| oN <| sK ?_
   by_cases aZ : d = 5
   · rw [if_pos aZ] at hm
     refine cIt rfl (dT aZ) <| cR <| oL (k := 0) (vs := (cL0 1 1 ar ([0].length) 1)) (v := .agg (cL0 1 1 ar ([0].length) 1).toArray) hs rfl rfl ty26 rfl rfl rfl <| oL (k := 0) (vs := (cL0 1 1 ar ([0].length) 1)) (v := .agg (cL0 1 1 ar ([0].length) 1).toArray) hs rfl rfl ty26 rfl rfl rfl <| oF (b := b3) (o := 0) fl168_6 z <| ld1 (k := 3) hs rfl rfl ty5 rfl ?_
     obtain ⟨ax, bQ, hm⟩ := bS hm
     refine oC (fi := []) (vs := [.agg (cL0 1 1 ar ([0].length) 1).toArray, .agg (cL0 1 1 ar ([0].length) 1).toArray, .int .u8 C]) (ca := []) rfl ⟨rfl, rfl, rfl, trivial⟩ en104 (f104_ok _ _ _ _ _ _ _ bQ hs aP aP) ?_
     clear hs; rintro _ w ⟨b9, bg, bc, bG, hs, rfl⟩
     refine oV (xM (v := .tuple #[.agg (cL0 ax.1 ax.2.1 bg ax.2.2.1.length bc).toArray, iN ax.2.2.2]) rfl) rfl <| oV (xE (v := .agg (cL0 ax.1 ax.2.1 bg ax.2.2.1.length bc).toArray) rfl rfl) rfl <| oV (xE (v := iN ax.2.2.2) rfl rfl) rfl <| asI rfl <| oN <| blockK_n <| sQR <| cR <| mI rfl <| oV (x_eql rfl rfl) rfl <| asB rfl ?_
     refine oN <| sK <| cw_ret <| rK (rs := [.tmp 6]) (vs := [.bool (decide (ax.2.2.2 = 0))]) (.inr rfl) rfl ⟨rfl, trivial⟩ ?_
     obtain rfl := oJ hm
     replace hs := hs.erase 0
     replace hs := hs.erase 0
     replace hs := hs.erase 0
     replace hs := hs.erase 0
     replace hs := hs.erase 0
     exact ⟨b9, ((((((((ad.trans U).trans y).trans B).trans E).trans D).trans aL).trans aU).trans bG), hs, rfl⟩
   rw [if_neg aZ] at hm
   refine cIf rfl (dF aZ) <| cw_skip <| blockK_n <| sQR <| cR <| mI rfl <| oV (x_eql rfl rfl) rfl <| asB rfl <| oN <| sK <| cw_ret ?_
   refine rK (rs := [.tmp 6]) (vs := [.bool (decide ((0 : Int) = 0))]) (.inr rfl) rfl ⟨rfl, trivial⟩ ?_
   obtain rfl := oJ hm
   replace hs := hs.erase 0
   replace hs := hs.erase 0
   replace hs := hs.erase 0
   replace hs := hs.erase 0
   exact ⟨b0, (((((((ad.trans U).trans y).trans B).trans E).trans D).trans aL).trans aU), hs, rfl⟩
 rw [if_neg h] at hm
 refine cD mixed rfl (fun f0 L f w => ∃ (i : Im), Im.le aw i ∧ f = frL [(66, 0, pQ Y 3), (67, 1, .bool (tbf71_3 d)), (68, 2, .bool (tbf71_3 d)), (69, 3, undef), (70, 4, undef), (71, 5, undef), (72, 6, undef), (73, 7, undef), (74, 8, undef), (75, 9, undef), (76, 10, undef), (77, 11, undef), (78, 12, undef), (79, 13, undef), (80, 14, undef), (81, 15, undef), (82, 16, undef), (83, 17, undef), (84, 18, undef), (85, 19, undef), (86, 20, undef), (87, 21, undef), (88, 22, undef), (89, 23, .bool false)] L f0 ∧ Sat i (blk Y 164 [.bool (tbf71_0 d), .bool (tbf71_1 d), .bool (tbf71_2 d), .bool (tbf71_3 d), iN (tbf71_4 d), (tbf71_5 d)] :: blk b5 165 (.bool false :: .bool false :: .bool false :: .bool false :: iN 0 :: .nilFunc :: .bool true :: .bool false :: .bool false :: .bool true :: iN 2147483648 :: .func (.func 75) #[] #[] :: .bool false :: .bool true :: .bool false :: .bool true :: iN 0 :: .func (.func 76) #[] #[] :: .bool true :: .bool false :: .bool false :: .bool false :: iN 2147483648 :: .func (.func 77) #[] #[] :: .bool true :: .bool true :: .bool false :: .bool false :: iN 0 :: .func (.func 78) #[] #[] :: .bool true :: .bool true :: .bool true :: .bool false :: iN 0 :: .func (.func 79) #[] #[] :: .bool true :: .bool true :: .bool false :: .bool false :: iN 65536 :: .func (.func 80) #[] #[] :: []) :: blk b3 168 (cL13 d ac ab aa Z O N M K H C x s.length u) :: F) w) ⟨aw, iR, (frL_ff _).symm, hs.drew⟩ ⟨?_, ?_, ?_, ?_, ?_, ?_, ?_, ?_, ?_, ?_, ?_, ?_, ?_, ?_, ?_, ?_, ?_, ?_, ?_, ?_, ?_, ?_, ?_, ?_, trivial⟩ ?_
 all_goals clear hs
 · rintro L f w _ hL ⟨i, c, rfl, hs⟩
   refine oF (b := Y) (o := 0) fl164_3 am ?_
   exact oN ⟨rfl, rfl, i, c, fS rfl rfl, hs⟩
 · rintro L f w ⟨aW, _⟩ hL ⟨i, c, rfl, hs⟩
   refine ld1 (k := 0) hs rfl (fG rfl aW) ty4 rfl ?_
   exact oN ⟨rfl, rfl, i, c, fS rfl rfl, hs⟩
 · rintro L f w ⟨aV, _⟩ hL ⟨i, c, rfl, hs⟩
   refine mB (fG rfl aV) ?_
   exact oN ⟨rfl, rfl, i, c, fS rfl rfl, hs⟩
 · rintro L f w ⟨j, _⟩ hL ⟨i, c, rfl, hs⟩
   refine oO (b := false) (yO rfl (fG rfl j) (bF h)) rfl ?_
   exact oN ⟨rfl, rfl, i, c, fS rfl rfl, hs⟩
 · rintro L f w ⟨bp, j, _⟩ hL ⟨i, c, rfl, hs⟩
   refine oO (b := false) (yO rfl (fG rfl j) (bF h)) rfl ?_
   exact oN ⟨rfl, rfl, i, c, fS rfl rfl, hs⟩
 · rintro L f w ⟨bo, j, _⟩ hL ⟨i, c, rfl, hs⟩
   refine oO (b := false) (yO rfl (fG rfl j) (bF h)) rfl ?_
   exact oN ⟨rfl, rfl, i, c, fS rfl rfl, hs⟩
 · rintro L f w ⟨j, _⟩ hL ⟨i, c, rfl, hs⟩
   refine oO (b := false) (yO rfl (fG rfl j) (bF h)) rfl ?_
   exact oN ⟨rfl, rfl, i, c, fS rfl rfl, hs⟩
 · rintro L f w ⟨bm, j, _⟩ hL ⟨i, c, rfl, hs⟩
   refine oO (b := false) (yO rfl (fG rfl j) (bF h)) rfl ?_
   exact oN ⟨rfl, rfl, i, c, fS rfl rfl, hs⟩
 · rintro L f w ⟨bn, bl, j, _⟩ hL ⟨i, c, rfl, hs⟩
   refine oO (b := false) (yO rfl (fG rfl j) (bF h)) rfl ?_
   exact oN ⟨rfl, rfl, i, c, fS rfl rfl, hs⟩
 · rintro L f w ⟨bk, j, _, _⟩ hL ⟨i, c, rfl, hs⟩
   refine oO (b := false) (yO rfl (fG rfl j) (bF h)) rfl ?_
   exact oN ⟨rfl, rfl, i, c, fS rfl rfl, hs⟩
 · rintro L f w ⟨A, _⟩ hL ⟨i, c, rfl, hs⟩
   refine ow_no' (yl_undef rfl (fG rfl A)) ?_
   exact oN ⟨rfl, rfl, i, c, fS rfl rfl, hs⟩
 · rintro L f w ⟨aT, A, _⟩ hL ⟨i, c, rfl, hs⟩
   refine ow_no' (yl_undef rfl (fG rfl A)) ?_
   exact oN ⟨rfl, rfl, i, c, fS rfl rfl, hs⟩
 · rintro L f w ⟨aS, A, _, _⟩ hL ⟨i, c, rfl, hs⟩
   refine ow_no' (yl_undef rfl (fG rfl A)) ?_
   exact oN ⟨rfl, rfl, i, c, fS rfl rfl, hs⟩
 · rintro L f w ⟨aq, A, _⟩ hL ⟨i, c, rfl, hs⟩
   refine ow_no' (yl_undef rfl (fG rfl A)) ?_
   exact oN ⟨rfl, rfl, i, c, fS rfl rfl, hs⟩
 · rintro L f w ⟨A, aR, j, _⟩ hL ⟨i, c, rfl, hs⟩
   refine oO (b := false) (yO rfl (fG rfl j) (bF h)) rfl ?_
   exact oN ⟨rfl, rfl, i, c, fS rfl rfl, hs⟩
 · rintro L f w ⟨aI, aq, j, _⟩ hL ⟨i, c, rfl, hs⟩
   refine oO (b := false) (yO rfl (fG rfl j) (bF h)) rfl ?_
   exact oN ⟨rfl, rfl, i, c, fS rfl rfl, hs⟩
 · rintro L f w ⟨l, _⟩ hL ⟨i, c, rfl, hs⟩
   refine ow_no' (yl_undef rfl (fG rfl l)) ?_
   exact oN ⟨rfl, rfl, i, c, fS rfl rfl, hs⟩
 · rintro L f w ⟨bb, l, _⟩ hL ⟨i, c, rfl, hs⟩
   refine ow_no' (yl_undef rfl (fG rfl l)) ?_
   exact oN ⟨rfl, rfl, i, c, fS rfl rfl, hs⟩
 · rintro L f w ⟨ba, l, _, _⟩ hL ⟨i, c, rfl, hs⟩
   refine ow_no' (yl_undef rfl (fG rfl l)) ?_
   exact oN ⟨rfl, rfl, i, c, fS rfl rfl, hs⟩
 · rintro L f w ⟨l, _⟩ hL ⟨i, c, rfl, hs⟩
   refine ow_no' (yl_undef rfl (fG rfl l)) ?_
   exact oN ⟨rfl, rfl, i, c, fS rfl rfl, hs⟩
 · rintro L f w ⟨a8, l, _⟩ hL ⟨i, c, rfl, hs⟩
   refine ow_no' (yl_undef rfl (fG rfl l)) ?_
   exact oN ⟨rfl, rfl, i, c, fS rfl rfl, hs⟩
 · rintro L f w ⟨a9, a7, l, _⟩ hL ⟨i, c, rfl, hs⟩
   refine ow_no' (yl_undef rfl (fG rfl l)) ?_
   exact oN ⟨rfl, rfl, i, c, fS rfl rfl, hs⟩
 · rintro L f w ⟨l, a6, j, _⟩ hL ⟨i, c, rfl, hs⟩
   refine oO (b := false) (yO rfl (fG rfl j) (bF h)) rfl ?_
   exact oN ⟨rfl, rfl, i, c, fS rfl rfl, hs⟩
 · rintro L f w ⟨j, aH, _⟩ hL ⟨i, c, rfl, hs⟩
   refine oV (x_pick_fE (v := .bool false) (fG rfl j) (bF h) rfl) rfl ?_
   exact oN ⟨rfl, rfl, i, c, fS rfl rfl, hs⟩
 rintro L f w hall ⟨b4, aF, rfl, hs⟩
 rw [frL_tt _ rfl hall]
 refine sK <| cw_cond_f rfl <| cw_skip <| sQR <| cR <| ow_buildSlice (vp := [(0, iN 0)]) (cs := [iN 0]) hs sl24 ty3 rfl ⟨rfl, rfl, trivial⟩ (by decide) rfl (by decide) ?_
 clear hs; intro au bq w ak hs aQ
 replace aQ : Rs bq 1 au [0].length 1 ([0].flatMap e64) := aQ
 refine oU (vp := [(0, iN 1), (1, iN 1), (2, .slice au ([0].length) 1)]) (cs := (cL0 1 1 au ([0].length) 1)) st26 ty26 ⟨rfl, rfl, rfl, rfl, rfl, rfl, trivial⟩ rfl <| ow_alloc hs ty26 rfl ?_
 clear hs; intro cl w hs
 refine oS (k := 0) (vs := (cL0 1 1 au ([0].length) 1)) (cs' := (cL0 1 1 au ([0].length) 1)) hs rfl rfl rfl ty26 rfl rfl (nLe rfl) rfl rfl ?_
 clear hs; intro w hs
 refine oN <| sQR <| cR <| asI rfl <| oN <| sQR <| cQ <| cR <| oF (b := b3) (o := 0) fl168_0 z <| ld1 (k := 3) hs rfl rfl ty5 rfl ?_
 refine oN <| sK <| cw_block <| cQ <| cR <| oV (x_eql rfl rfl) rfl <| asB rfl <| oN <| sK ?_
 by_cases a3 : d = 4
 · rw [if_pos a3] at hm
   refine cIt rfl (dT a3) <| cR <| oL (k := 0) (vs := (cL0 1 1 au ([0].length) 1)) (v := .agg (cL0 1 1 au ([0].length) 1).toArray) hs rfl rfl ty26 rfl rfl rfl <| oF (b := b3) (o := 0) fl168_5 z <| oL (k := 3) (vs := (cL3 O N M K H)) (v := .agg (cL3 O N M K H).toArray) hs rfl rfl ty35 rfl rfl rfl ?_
   obtain ⟨aA, bU, hm⟩ := bS hm
   refine oC (fi := []) (vs := [.agg (cL0 1 1 au ([0].length) 1).toArray, .agg (cL3 O N M K H).toArray]) (ca := []) rfl ⟨rfl, rfl, trivial⟩ en49 (f49_ok _ _ _ _ _ _ _ _ bU hs aQ) ?_
   clear hs; rintro _ w ⟨cd, bj, bf, bJ, hs, rfl⟩
   refine oV (xM (v := .tuple #[.agg (cL0 aA.1 aA.2.1 bj aA.2.2.1.length bf).toArray, iN aA.2.2.2]) rfl) rfl <| oV (xE (v := .agg (cL0 aA.1 aA.2.1 bj aA.2.2.1.length bf).toArray) rfl rfl) rfl <| oV (xE (v := iN aA.2.2.2) rfl rfl) rfl <| asI rfl <| oN <| blockK_n <| sQR <| cR <| mI rfl <| oV (x_eql rfl rfl) rfl <| asB rfl ?_
   refine oN <| sK <| cw_ret <| rK (rs := [.tmp 6]) (vs := [.bool (decide (aA.2.2.2 = 0))]) (.inr rfl) rfl ⟨rfl, trivial⟩ ?_
   obtain rfl := oJ hm
   replace hs := hs.erase 0
   replace hs := hs.erase 0
   replace hs := hs.erase 0
   replace hs := hs.erase 0
   replace hs := hs.erase 0
   exact ⟨cd, ((((((((ad.trans U).trans y).trans B).trans E).trans D).trans aF).trans ak).trans bJ), hs, rfl⟩
 rw [if_neg a3] at hm
 refine cIf rfl (dF a3) <| cQ <| cR <| oV (x_eql rfl rfl) rfl <| asB rfl <| oN <| sK ?_
 by_cases a1 : d = 5
 · rw [if_pos a1] at hm
   refine cIt rfl (dT a1) <| cR <| oL (k := 0) (vs := (cL0 1 1 au ([0].length) 1)) (v := .agg (cL0 1 1 au ([0].length) 1).toArray) hs rfl rfl ty26 rfl rfl rfl <| oL (k := 0) (vs := (cL0 1 1 au ([0].length) 1)) (v := .agg (cL0 1 1 au ([0].length) 1).toArray) hs rfl rfl ty26 rfl rfl rfl <| oF (b := b3) (o := 0) fl168_6 z <| ld1 (k := 3) hs rfl rfl ty5 rfl ?_
   obtain ⟨az, bT, hm⟩ := bS hm
   refine oC (fi := []) (vs := [.agg (cL0 1 1 au ([0].length) 1).toArray, .agg (cL0 1 1 au ([0].length) 1).toArray, .int .u8 C]) (ca := []) rfl ⟨rfl, rfl, rfl, trivial⟩ en104 (f104_ok _ _ _ _ _ _ _ bT hs aQ aQ) ?_
   clear hs; rintro _ w ⟨cc, bi, be, bI, hs, rfl⟩
   refine oV (xM (v := .tuple #[.agg (cL0 az.1 az.2.1 bi az.2.2.1.length be).toArray, iN az.2.2.2]) rfl) rfl <| oV (xE (v := .agg (cL0 az.1 az.2.1 bi az.2.2.1.length be).toArray) rfl rfl) rfl <| oV (xE (v := iN az.2.2.2) rfl rfl) rfl <| asI rfl <| oN <| blockK_n <| sQR <| cR <| mI rfl <| oV (x_eql rfl rfl) rfl <| asB rfl ?_
   refine oN <| sK <| cw_ret <| rK (rs := [.tmp 6]) (vs := [.bool (decide (az.2.2.2 = 0))]) (.inr rfl) rfl ⟨rfl, trivial⟩ ?_
   obtain rfl := oJ hm
   replace hs := hs.erase 0
   replace hs := hs.erase 0
   replace hs := hs.erase 0
   replace hs := hs.erase 0
   replace hs := hs.erase 0
   exact ⟨cc, ((((((((ad.trans U).trans y).trans B).trans E).trans D).trans aF).trans ak).trans bI), hs, rfl⟩
 rw [if_neg a1] at hm
 refine cIf rfl (dF a1) <| cw_skip <| blockK_n <| sQR <| cR <| mI rfl <| oV (x_eql rfl rfl) rfl <| asB rfl <| oN <| sK <| cw_ret ?_
 refine rK (rs := [.tmp 6]) (vs := [.bool (decide ((0 : Int) = 0))]) (.inr rfl) rfl ⟨rfl, trivial⟩ ?_
 obtain rfl := oJ hm
 replace hs := hs.erase 0
 replace hs := hs.erase 0
 replace hs := hs.erase 0
 replace hs := hs.erase 0
 exact ⟨bq, (((((((ad.trans U).trans y).trans B).trans E).trans D).trans aF).trans ak), hs, rfl⟩
def f70_m (s : Int) (q : Int) (p : Int) (o : Int) (m : Int) (l : Int) (j : Int) (i : Int) (h : Int) (f : Int) (c : Int) (a : List Int) (x : Int) (u : Int) (t : Int) : Option Bool :=
  ((f71_m x u t s q p o m l j i h f c a).bind fun E => some (!E))
theorem f70_ok (s : Int) (q : Int) (p : Int) (o : Int) (m : Int) (l : Int) (j : Int) (i : Int) (h : Int) (f : Int) (c : Int) (a : List Int) (x : Int) (u : Int) (t : Int) {r : Bool} (hm : f70_m s q p o m l j i h f c a x u t = some r) {e : Option Addr} {d : Nat} {D : Nat} {C : Nat} {I : Im} {F : List HP} {w : World} (hs : Sat I (F) w) (y : Rs I 1 e a.length d (a.flatMap e64)) (B : Ib I D 46 (cL1 x u t)) (A : Ib I C 165 (.bool false :: .bool false :: .bool false :: .bool false :: iN 0 :: .nilFunc :: .bool true :: .bool false :: .bool false :: .bool true :: iN 2147483648 :: .func (.func 75) #[] #[] :: .bool false :: .bool true :: .bool false :: .bool true :: iN 0 :: .func (.func 76) #[] #[] :: .bool true :: .bool false :: .bool false :: .bool false :: iN 2147483648 :: .func (.func 77) #[] #[] :: .bool true :: .bool true :: .bool false :: .bool false :: iN 0 :: .func (.func 78) #[] #[] :: .bool true :: .bool true :: .bool true :: .bool false :: iN 0 :: .func (.func 79) #[] #[] :: .bool true :: .bool true :: .bool false :: .bool false :: iN 65536 :: .func (.func 80) #[] #[] :: [])) :
    CV P 70 [.agg (cL13 s q p o m l j i h f c e a.length d).toArray, pQ D 0, pQ C 0] w fun v w' => ∃ (J : Im), Im.le I J ∧ Sat J (F) w' ∧ v = .bool r := by
 unfold f70_m at hm
 refine cv_of (n := 10) Proofs.Tryz.func70 rfl rfl (nLe rfl) <| cQ <| cR <| oB (v := .agg (cL13 s q p o m l j i h f c e a.length d).toArray) (cs := (cL13 s q p o m l j i h f c e a.length d)) hs rfl rfl ?_
 clear hs; intro K w hs
 refine asB rfl <| oN <| sQR <| cR <| ow_loadI (vs := (cL1 x u t)) (v := .agg (cL1 x u t).toArray) hs B rfl ty46 rfl rfl rfl <| oL (k := 0) (vs := (cL13 s q p o m l j i h f c e a.length d)) (v := .agg (cL13 s q p o m l j i h f c e a.length d).toArray) hs rfl rfl ty168 rfl rfl rfl <| ow_loadI (vs := (.bool false :: .bool false :: .bool false :: .bool false :: iN 0 :: .nilFunc :: .bool true :: .bool false :: .bool false :: .bool true :: iN 2147483648 :: .func (.func 75) #[] #[] :: .bool false :: .bool true :: .bool false :: .bool true :: iN 0 :: .func (.func 76) #[] #[] :: .bool true :: .bool false :: .bool false :: .bool false :: iN 2147483648 :: .func (.func 77) #[] #[] :: .bool true :: .bool true :: .bool false :: .bool false :: iN 0 :: .func (.func 78) #[] #[] :: .bool true :: .bool true :: .bool true :: .bool false :: iN 0 :: .func (.func 79) #[] #[] :: .bool true :: .bool true :: .bool false :: .bool false :: iN 65536 :: .func (.func 80) #[] #[] :: [])) (v := .agg (List.toArray (.bool false :: .bool false :: .bool false :: .bool false :: iN 0 :: .nilFunc :: .bool true :: .bool false :: .bool false :: .bool true :: iN 2147483648 :: .func (.func 75) #[] #[] :: .bool false :: .bool true :: .bool false :: .bool true :: iN 0 :: .func (.func 76) #[] #[] :: .bool true :: .bool false :: .bool false :: .bool false :: iN 2147483648 :: .func (.func 77) #[] #[] :: .bool true :: .bool true :: .bool false :: .bool false :: iN 0 :: .func (.func 78) #[] #[] :: .bool true :: .bool true :: .bool true :: .bool false :: iN 0 :: .func (.func 79) #[] #[] :: .bool true :: .bool true :: .bool false :: .bool false :: iN 65536 :: .func (.func 80) #[] #[] :: []))) hs A rfl ty165 rfl rfl rfl ?_
 obtain ⟨E, G, hm⟩ := bS hm
 refine oC (fi := []) (vs := [.agg (cL1 x u t).toArray, .agg (cL13 s q p o m l j i h f c e a.length d).toArray, .agg (List.toArray (.bool false :: .bool false :: .bool false :: .bool false :: iN 0 :: .nilFunc :: .bool true :: .bool false :: .bool false :: .bool true :: iN 2147483648 :: .func (.func 75) #[] #[] :: .bool false :: .bool true :: .bool false :: .bool true :: iN 0 :: .func (.func 76) #[] #[] :: .bool true :: .bool false :: .bool false :: .bool false :: iN 2147483648 :: .func (.func 77) #[] #[] :: .bool true :: .bool true :: .bool false :: .bool false :: iN 0 :: .func (.func 78) #[] #[] :: .bool true :: .bool true :: .bool true :: .bool false :: iN 0 :: .func (.func 79) #[] #[] :: .bool true :: .bool true :: .bool false :: .bool false :: iN 65536 :: .func (.func 80) #[] #[] :: []))]) (ca := []) rfl ⟨rfl, rfl, rfl, trivial⟩ en71 (f71_ok _ _ _ _ _ _ _ _ _ _ _ _ _ _ _ G hs y) ?_
 clear hs; rintro _ w ⟨H, z, hs, rfl⟩
 refine oV (x_not (b := E) rfl) rfl <| asB rfl <| oN <| sK <| cw_ret <| rK (rs := [.tmp 4]) (vs := [.bool (!E)]) (.inr rfl) rfl ⟨rfl, trivial⟩ ?_
 obtain rfl := oJ hm
 replace hs := hs.erase 0
 exact ⟨H, z, hs, rfl⟩
def f109_l0 (e : List (T4x)) (d : Int) (c : Int) (b : Int) : Nat → Int → Option (Sum Unit Int)
  | 0, _ => none
  | k + 1, a => (if a < (e.length : Int) then (if 0 ≤ a ∧ a < (e.length : Int) then ((f70_m ((at' e a).1) ((at' e a).2.1) ((at' e a).2.2.1) ((at' e a).2.2.2.1) ((at' e a).2.2.2.2.1) ((at' e a).2.2.2.2.2.1) ((at' e a).2.2.2.2.2.2.1) ((at' e a).2.2.2.2.2.2.2.1) ((at' e a).2.2.2.2.2.2.2.2.1) ((at' e a).2.2.2.2.2.2.2.2.2.1) ((at' e a).2.2.2.2.2.2.2.2.2.2.1) ((at' e a).2.2.2.2.2.2.2.2.2.2.2) d c b).bind fun K => (if K = true then some (Sum.inr a) else (f109_l0 e d c b k (w64 (a + 1))))) else none) else some (Sum.inl ()))
def f109_m (e : List (T4x)) (d : Int) (c : Int) (b : Int) : Option Int :=
  (lb (S := Unit) (f109_l0 e d c b FUEL 0) id (fun H => some (-1)))
theorem f109_ok (e : List (T4x)) (d : Int) (c : Int) (b : Int) {r : Int} (hm : f109_m e d c b = some r) {O : Option Addr} {M : Nat} {l : Nat} {j : Nat} {I : Im} {F : List HP} {w : World} (hs : Sat I (F) w) (C : SN168 I O e.length M e) (q : Ib I l 46 (cL1 d c b)) (o : Ib I j 165 (.bool false :: .bool false :: .bool false :: .bool false :: iN 0 :: .nilFunc :: .bool true :: .bool false :: .bool false :: .bool true :: iN 2147483648 :: .func (.func 75) #[] #[] :: .bool false :: .bool true :: .bool false :: .bool true :: iN 0 :: .func (.func 76) #[] #[] :: .bool true :: .bool false :: .bool false :: .bool false :: iN 2147483648 :: .func (.func 77) #[] #[] :: .bool true :: .bool true :: .bool false :: .bool false :: iN 0 :: .func (.func 78) #[] #[] :: .bool true :: .bool true :: .bool true :: .bool false :: iN 0 :: .func (.func 79) #[] #[] :: .bool true :: .bool true :: .bool false :: .bool false :: iN 65536 :: .func (.func 80) #[] #[] :: [])) :
    CV P 109 [.slice O e.length M, .func (.func 70) #[] #[pQ l 0, pQ j 0]] w fun v w' => ∃ (J : Im), Im.le I J ∧ Sat J (F) w' ∧ v = iN r := by
 unfold f109_m at hm
 refine cv_of (n := 19) Proofs.Tryz.func109 rfl rfl (nLe rfl) <| cQ <| cR <| asI rfl <| oN <| sK ?_
 obtain ⟨R, V, G⟩ := lb_some hm
 replace hm := V; clear V
 refine cJ (fun f ds w => ∃ (H : Unit) (E : Im), ds = [] ∧ Im.le I E ∧ R = Sum.inl H ∧ Sat E (F) w ∧ f 4 = iN 0) ?_ ?_
 · refine cQ <| cR <| mS rfl <| oV (x_len sl79 rfl) rfl <| mI rfl <| oN <| sK <| cw_block ?_
   refine cL (S := fun k f ds w => ∃ (a : Int), ∃ (D : Im), ds = [] ∧ Im.le I D ∧ f109_l0 e d c b k a = some R ∧ Sat D (F) w ∧ f 0 = .slice O e.length M ∧ f 1 = .func (.func 70) #[] #[pQ l 0, pQ j 0] ∧ f 4 = iN 0 ∧ f 7 = iN (e.length : Int) ∧ f 8 = iN a) ?_ (k := FUEL) ⟨0, I, rfl, iR, hm, hs, rfl, rfl, rfl, rfl, rfl⟩
   clear hm hs
   rintro k f ds w ⟨a, D, rfl, h, hm, hs, y, x, u, t, m⟩
   rcases k with _ | k
   · unfold f109_l0 at hm; cases hm
   unfold f109_l0 at hm
   refine cQ <| cR <| oV (x_lss m t) rfl <| oN <| sQR ?_
   by_cases A : a < (e.length : Int)
   · rw [if_pos A] at hm
     refine cIt rfl (dT A) <| cw_skip <| sQR <| cw_block <| cQ <| cR <| mI m <| asI rfl <| oN <| sQR ?_
     refine cR <| oV (xM (v := .func (.func 70) #[] #[pQ l 0, pQ j 0]) x) rfl <| mS y <| mI rfl ?_
     have s := (iS hm).1
     replace hm := (iS hm).2
     replace C := C.mono h
     refine oI (i := a) sl79 ty168 rfl rfl s.1 s.2 (SN168.some C (by have := s; omega)) ?_
     obtain ⟨csu69, hru69, hnu69⟩ := (id C)
     obtain ⟨vsu69, hvu69, Q, N, rfl, W⟩ := NL.at rl168.len hnu69 s.1 s.2
     refine oLR (p := a.toNat * 12) (vs := (rL17 (at' e a) Q N)) (v := .agg (rL17 (at' e a) Q N).toArray) hs hru69 rfl ty168 ((cells_part hvu69 0 12 (by decide)).trans rfl) rfl rfl ?_
     obtain ⟨K, U, hm⟩ := bS hm
     replace q := q.mono h; replace o := o.mono h
     refine oC (fi := []) (vs := [.agg (rL17 (at' e a) Q N).toArray]) (ca := [pQ l 0, pQ j 0]) rfl ⟨rfl, trivial⟩ en70 (f70_ok _ _ _ _ _ _ _ _ _ _ _ _ _ _ _ U hs W q o) ?_
     clear hs; rintro _ w ⟨X, B, hs, rfl⟩
     refine oN <| sK ?_
     by_cases z : K = true
     · rw [if_pos z] at hm
       refine cIt rfl z <| cQ <| cR <| mI rfl <| asI rfl <| oN <| sK <| cw_ret <| blockK_r <| seqK_r <| loopK_r <| blockK_r ?_
       refine joinK_r <| rK (rs := [.tmp 4]) (vs := [iN a]) (.inr rfl) rfl ⟨rfl, trivial⟩ ?_
       replace hm := lret hm G
       obtain rfl := oJ hm
       exact ⟨X, (h.trans B), hs, rfl⟩
     rw [if_neg z] at hm
     refine cIf rfl (bF z) <| cw_skip <| blockK_n <| sK <| cR <| oV (x_add m rfl) rfl <| mI rfl <| oN ?_
     exact lN ⟨k, Nat.lt_succ_self k, w64 (a + 1), X, rfl, (h.trans B), hm, hs, y, x, u, t, rfl⟩
   rw [if_neg A] at hm
   refine cIf rfl (dF A) <| cw_exit <| seqK_x <| loopK_x <| blockK_hit ?_
   obtain rfl := oJ hm
   refine jN ⟨(), D, rfl, h, rfl, hs, u⟩
 clear hm hs
 rintro f ds w ⟨H, E, rfl, L, rfl, hs, T⟩
 replace hm := lexit rfl G
 refine cQ <| cR <| asI rfl <| oN <| sK <| cw_ret <| rK (rs := [.tmp 4]) (vs := [iN (-1)]) (.inr rfl) rfl ⟨rfl, trivial⟩ ?_
 obtain rfl := oJ hm
 exact ⟨E, L, hs, rfl⟩
def f69_m (i : List (T4x)) (c : Int) (b : Int) (a : Int) : Option Bool :=
  ((f109_m i c b a).bind fun m => some (decide (0 ≤ m)))
theorem f69_ok (i : List (T4x)) (c : Int) (b : Int) (a : Int) {r : Bool} (hm : f69_m i c b a = some r) {k : Option Addr} {j : Nat} {e : Nat} {d : Nat} {I : Im} {F : List HP} {w : World} (hs : Sat I (F) w) (o : SN168 I k i.length j i) (h : Ib I e 46 (cL1 c b a)) (f : Ib I d 165 (.bool false :: .bool false :: .bool false :: .bool false :: iN 0 :: .nilFunc :: .bool true :: .bool false :: .bool false :: .bool true :: iN 2147483648 :: .func (.func 75) #[] #[] :: .bool false :: .bool true :: .bool false :: .bool true :: iN 0 :: .func (.func 76) #[] #[] :: .bool true :: .bool false :: .bool false :: .bool false :: iN 2147483648 :: .func (.func 77) #[] #[] :: .bool true :: .bool true :: .bool false :: .bool false :: iN 0 :: .func (.func 78) #[] #[] :: .bool true :: .bool true :: .bool true :: .bool false :: iN 0 :: .func (.func 79) #[] #[] :: .bool true :: .bool true :: .bool false :: .bool false :: iN 65536 :: .func (.func 80) #[] #[] :: [])) :
    CV P 69 [.slice k i.length j, .func (.func 70) #[] #[pQ e 0, pQ d 0]] w fun v w' => ∃ (J : Im), Im.le I J ∧ Sat J (F) w' ∧ v = .bool r := by
 unfold f69_m at hm
 refine cv_of (n := 9) Proofs.Tryz.func69 rfl rfl (nLe rfl) <| cQ <| cR <| asB rfl <| oN <| sQR <| cR <| mS rfl <| oV (xM (v := .func (.func 70) #[] #[pQ e 0, pQ d 0]) rfl) rfl ?_
 obtain ⟨m, p, hm⟩ := bS hm
 refine oC (fi := []) (vs := [.slice k i.length j, .func (.func 70) #[] #[pQ e 0, pQ d 0]]) (ca := []) rfl ⟨rfl, rfl, trivial⟩ en109 (f109_ok _ _ _ _ p hs o h f) ?_
 clear hs; rintro _ w ⟨q, l, hs, rfl⟩
 refine oV (x_geq rfl rfl) rfl <| asB rfl <| oN <| sK <| cw_ret <| rK (rs := [.tmp 4]) (vs := [.bool (decide (0 ≤ m))]) (.inr rfl) rfl ⟨rfl, trivial⟩ ?_
 obtain rfl := oJ hm
 exact ⟨q, l, hs, rfl⟩
def f41_m (j : Int) (i : Int) (a : Int) (d : Int) (c : Int) (h : List Int) (z : Int) (e : List (T4x)) : Option Int :=
  ((f33_m j i a).bind fun r5 => (if (!r5) = true then some 31 else ((f59_m d 1 16).bind fun au => ((if (!au) = true then some true else ((f59_m c 1 16).bind fun ar => some (!ar))).bind fun az => ((if az = true then some true else some (decide (3 < (h.length : Int)))).bind fun ay => ((if ay = true then some true else some (decide (200000 < (e.length : Int)))).bind fun ax => (if ax = true then some 32 else ((f59_m z 0 (w64 (a - (w64 (d * c))))).bind fun aq => ((if (!aq) = true then some true else ((f68_m h (w64 (a - (w64 (d * c))))).bind fun aD => some aD)).bind fun av => (if av = true then some 32 else ((f43_m ).bind fun aT => ((f69_m e j i a).bind fun aC => (if aC = true then some 32 else some 0)))))))))))))
theorem f41_ok (j : Int) (i : Int) (a : Int) (d : Int) (c : Int) (h : List Int) (z : Int) (e : List (T4x)) {r : Int} (hm : f41_m j i a d c h z e = some r) {s : Option Addr} {p : Nat} {q : Option Addr} {m : Nat} {I : Im} {F : List HP} {w : World} (hs : Sat I (F) w) (ab : Rs I 1 s h.length p (h.flatMap e64)) (aa : SN168 I q e.length m e) :
    CV P 41 [.agg (cL1 j i a).toArray, .agg (cL16 d c s h.length p z q e.length m).toArray] w fun v w' => ∃ (J : Im), Im.le I J ∧ Sat J (F) w' ∧ v = iN r := by
 unfold f41_m at hm
 refine cv_of (n := 58) Proofs.Tryz.func41 rfl rfl (nLe rfl) <| cQ <| cR <| oB (v := .agg (cL1 j i a).toArray) (cs := (cL1 j i a)) hs rfl rfl ?_
 clear hs; intro b1 w hs
 refine oB (v := .agg (cL16 d c s h.length p z q e.length m).toArray) (cs := (cL16 d c s h.length p z q e.length m)) hs rfl rfl ?_
 clear hs; intro Z w hs
 refine asI rfl <| oN <| sQR <| cQ <| cR <| oL (k := 1) (vs := (cL1 j i a)) (v := .agg (cL1 j i a).toArray) hs rfl rfl ty46 rfl rfl rfl ?_
 obtain ⟨r5, aU, hm⟩ := bS hm
 refine oC (fi := []) (vs := [.agg (cL1 j i a).toArray]) (ca := []) rfl ⟨rfl, trivial⟩ en33 (f33_ok _ _ _ aU hs) ?_
 clear hs; rintro _ w ⟨J7, Q, hs, rfl⟩
 refine oV (x_not (b := r5) rfl) rfl <| oN <| sK ?_
 by_cases ah : (!r5) = true
 · rw [if_pos ah] at hm
   refine cIt rfl ah <| cQ <| cR <| asI rfl <| oN <| sK <| cw_ret <| seqK_r <| rK (rs := [.tmp 4]) (vs := [iN 31]) (.inr rfl) rfl ⟨rfl, trivial⟩ ?_
   obtain rfl := oJ hm
   replace hs := hs.erase 0
   replace hs := hs.erase 0
   exact ⟨J7, Q, hs, rfl⟩
 rw [if_neg ah] at hm
 refine cIf rfl (bF ah) <| cw_skip <| sQR <| cQ <| cR <| oF (b := Z) (o := 0) fl81_0 rfl <| ld1 (k := 0) hs rfl rfl ty3 rfl ?_
 obtain ⟨au, aM, hm⟩ := bS hm
 refine oC (fi := []) (vs := (cL1 d 1 16)) (ca := []) rfl ⟨rfl, rfl, rfl, trivial⟩ en59 (f59_ok _ _ _ aM hs) ?_
 clear hs; rintro _ w ⟨aR, H, hs, rfl⟩
 refine oV (x_not (b := au) rfl) rfl <| mB rfl ?_
 obtain ⟨az, B, hm⟩ := bS hm
 refine oJN 5 (fun f ds w => ∃ (ak : Im), ds = [] ∧ Im.le aR ak ∧ Sat ak (blk Z 81 (cL16 d c s h.length p z q e.length m) :: blk b1 46 (cL1 j i a) :: F) w ∧ f 20 = .bool az ∧ f 2 = pQ b1 0 ∧ f 3 = pQ Z 0 ∧ f 4 = iN 0) ?_ ?_
 · by_cases y : (!au) = true
   · rw [if_pos y] at B
     refine oO (b := true) (yO rfl rfl y) rfl <| oO (b := true) (yO rfl rfl y) rfl <| oO (b := true) (yO rfl rfl y) rfl <| oO (b := true) (yO rfl rfl y) rfl <| oV (xPt (v := .bool true) ((rfl : ev _ _ _ = _).trans (congrArg Value.bool y)) rfl) rfl <| oN ?_
     obtain rfl := oJ B
     exact ⟨aR, rfl, iR, hs, rfl, rfl, rfl, rfl⟩
   rw [if_neg y] at B
   refine oG (yO rfl rfl (bF y)) <| oF (b := Z) (o := 0) fl81_1 rfl <| oG (yO rfl rfl (bF y)) <| ld1 (k := 0) hs rfl rfl ty3 rfl <| oG (yO rfl rfl (bF y)) ?_
   obtain ⟨ar, aL, B⟩ := bS B
   refine oC (fi := []) (vs := (cL1 c 1 16)) (ca := []) rfl ⟨rfl, rfl, rfl, trivial⟩ en59 (f59_ok _ _ _ aL hs) ?_
   clear hs; rintro _ w ⟨aW, aF, hs, rfl⟩
   refine oG (yO rfl rfl (bF y)) <| oV (x_not (b := ar) rfl) rfl <| oV (xPf (v := .bool (!ar)) ((rfl : ev _ _ _ = _).trans (congrArg Value.bool (bF y))) rfl) rfl <| oN ?_
   obtain rfl := oJ B
   exact ⟨aW, rfl, aF, hs, rfl, rfl, rfl, rfl⟩
 clear B hs
 rintro f ds w ⟨ak, rfl, G, hs, htbb16, Y, L, W⟩
 refine mB htbb16 ?_
 obtain ⟨ay, O, hm⟩ := bS hm
 refine oJN 5 (fun f ds w => ∃ (aj : Im), ds = [] ∧ Im.le ak aj ∧ Sat aj (blk Z 81 (cL16 d c s h.length p z q e.length m) :: blk b1 46 (cL1 j i a) :: F) w ∧ f 26 = .bool ay ∧ f 2 = pQ b1 0 ∧ f 3 = pQ Z 0 ∧ f 4 = iN 0) ?_ ?_
 · by_cases x : az = true
   · rw [if_pos x] at O
     refine oO (b := true) (yO rfl rfl x) rfl <| oO (b := true) (yO rfl rfl x) rfl <| oO (b := true) (yO rfl rfl x) rfl <| oO (b := true) (yO rfl rfl x) rfl <| oV (xPt (v := .bool true) ((rfl : ev _ _ _ = _).trans (congrArg Value.bool x)) rfl) rfl <| oN ?_
     obtain rfl := oJ O
     exact ⟨ak, rfl, iR, hs, rfl, Y, L, W⟩
   rw [if_neg x] at O
   refine oG (yO rfl rfl (bF x)) <| oF (b := Z) (o := 0) fl81_2 L <| oG (yO rfl rfl (bF x)) <| ld1 (k := 0) hs rfl rfl ty24 rfl <| oG (yO rfl rfl (bF x)) <| oV (x_len sl24 rfl) rfl <| oG (yO rfl rfl (bF x)) <| oV (x_gtr rfl rfl) rfl <| oV (xPf (v := .bool (decide (3 < (h.length : Int)))) ((rfl : ev _ _ _ = _).trans (congrArg Value.bool (bF x))) rfl) rfl <| oN ?_
   obtain rfl := oJ O
   exact ⟨ak, rfl, iR, hs, rfl, Y, L, W⟩
 clear O hs
 rintro f ds w ⟨aj, rfl, E, hs, htbb25, X, K, V⟩
 refine mB htbb25 ?_
 obtain ⟨ax, N, hm⟩ := bS hm
 refine oJN 5 (fun f ds w => ∃ (aB : Im), ds = [] ∧ Im.le aj aB ∧ Sat aB (blk Z 81 (cL16 d c s h.length p z q e.length m) :: blk b1 46 (cL1 j i a) :: F) w ∧ f 32 = .bool ax ∧ f 2 = pQ b1 0 ∧ f 3 = pQ Z 0 ∧ f 4 = iN 0) ?_ ?_
 · by_cases u : ay = true
   · rw [if_pos u] at N
     refine oO (b := true) (yO rfl rfl u) rfl <| oO (b := true) (yO rfl rfl u) rfl <| oO (b := true) (yO rfl rfl u) rfl <| oO (b := true) (yO rfl rfl u) rfl <| oV (xPt (v := .bool true) ((rfl : ev _ _ _ = _).trans (congrArg Value.bool u)) rfl) rfl <| oN ?_
     obtain rfl := oJ N
     exact ⟨aj, rfl, iR, hs, rfl, X, K, V⟩
   rw [if_neg u] at N
   refine oG (yO rfl rfl (bF u)) <| oF (b := Z) (o := 0) fl81_4 K <| oG (yO rfl rfl (bF u)) <| ld1 (k := 0) hs rfl rfl ty79 rfl <| oG (yO rfl rfl (bF u)) <| oV (x_len sl79 rfl) rfl <| oG (yO rfl rfl (bF u)) <| oV (x_gtr rfl rfl) rfl <| oV (xPf (v := .bool (decide (200000 < (e.length : Int)))) ((rfl : ev _ _ _ = _).trans (congrArg Value.bool (bF u))) rfl) rfl <| oN ?_
   obtain rfl := oJ N
   exact ⟨aj, rfl, iR, hs, rfl, X, K, V⟩
 clear N hs
 rintro f ds w ⟨aB, rfl, D, hs, htbb29, M, l, U⟩
 refine oN <| sK ?_
 by_cases ag : ax = true
 · rw [if_pos ag] at hm
   refine cIt htbb29 ag <| cQ <| cR <| asI rfl <| oN <| sK <| cw_ret <| seqK_r <| rK (rs := [.tmp 4]) (vs := [iN 32]) (.inr rfl) rfl ⟨rfl, trivial⟩ ?_
   obtain rfl := oJ hm
   replace hs := hs.erase 0
   replace hs := hs.erase 0
   exact ⟨aB, ((((Q.trans H).trans G).trans E).trans D), hs, rfl⟩
 rw [if_neg ag] at hm
 refine cIf htbb29 (bF ag) <| cw_skip <| sQR <| cR <| oF (b := b1) (o := 0) fl46_2 M <| ld1 (k := 1) hs rfl rfl ty3 rfl <| oF (b := Z) (o := 0) fl81_0 l <| ld1 (k := 0) hs rfl rfl ty3 rfl <| oF (b := Z) (o := 0) fl81_1 l <| ld1 (k := 0) hs rfl rfl ty3 rfl <| oV (x_mul rfl rfl) rfl ?_
 refine oV (x_sub rfl rfl) rfl <| ow_alloc hs ty3 rfl ?_
 clear hs; intro aw w hs
 refine oS (k := 0) (vs := [iN (w64 (a - (w64 (d * c))))]) (cs' := [iN (w64 (a - (w64 (d * c))))]) hs rfl rfl rfl ty3 rfl rfl (nLe rfl) rfl rfl ?_
 clear hs; intro w hs
 refine oN <| sQR <| cR ?_
 obtain ⟨a1, R, ai, hs⟩ := hs.freezeB
 refine oV (x_funcL (vf := []) (vc := [pQ aw 0]) trivial ⟨rfl, trivial⟩) rfl <| oV (xA (v := .func (.func 67) #[] #[pQ aw 0]) rfl) rfl <| oN <| sQR <| cQ <| cR <| oF (b := Z) (o := 0) fl81_3 l <| ld1 (k := 0) hs rfl rfl ty3 rfl <| ld1I hs ai rfl ty3 rfl ?_
 obtain ⟨aq, aK, hm⟩ := bS hm
 refine oC (fi := []) (vs := (cL1 z 0 (w64 (a - (w64 (d * c)))))) (ca := []) rfl ⟨rfl, rfl, rfl, trivial⟩ en59 (f59_ok _ _ _ aK hs) ?_
 clear hs; rintro _ w ⟨aQ, C, hs, rfl⟩
 refine oV (x_not (b := aq) rfl) rfl <| mB rfl ?_
 obtain ⟨av, A, hm⟩ := bS hm
 refine oJN 5 (fun f ds w => ∃ (aA : Im), ds = [] ∧ Im.le aQ aA ∧ Sat aA (blk Z 81 (cL16 d c s h.length p z q e.length m) :: blk b1 46 (cL1 j i a) :: F) w ∧ f 52 = .bool av ∧ f 2 = pQ b1 0 ∧ f 3 = pQ Z 0 ∧ f 4 = iN 0) ?_ ?_
 · by_cases t : (!aq) = true
   · rw [if_pos t] at A
     refine oO (b := true) (yO rfl rfl t) rfl <| oO (b := true) (yO rfl rfl t) rfl <| oO (b := true) (yO rfl rfl t) rfl <| oO (b := true) (yO rfl rfl t) rfl <| oV (xPt (v := .bool true) ((rfl : ev _ _ _ = _).trans (congrArg Value.bool t)) rfl) rfl <| oN ?_
     obtain rfl := oJ A
     exact ⟨aQ, rfl, iR, hs, rfl, M, l, U⟩
   rw [if_neg t] at A
   refine oG (yO rfl rfl (bF t)) <| oF (b := Z) (o := 0) fl81_2 l <| oG (yO rfl rfl (bF t)) <| ld1 (k := 0) hs rfl rfl ty24 rfl <| oG (yO rfl rfl (bF t)) <| oV (xM (v := .func (.func 67) #[] #[pQ aw 0]) rfl) rfl <| oG (yO rfl rfl (bF t)) ?_
   obtain ⟨aD, aJ, A⟩ := bS A
   replace ab := ab.mono ((((((Q.trans H).trans G).trans E).trans D).trans R).trans C); replace ai := ai.mono C
   refine oC (fi := []) (vs := [.slice s h.length p, .func (.func 67) #[] #[pQ aw 0]]) (ca := []) rfl ⟨rfl, rfl, trivial⟩ en68 (f68_ok _ _ aJ hs ab ai) ?_
   clear hs; rintro _ w ⟨aV, aE, hs, rfl⟩
   refine oV (xPf (v := .bool aD) ((rfl : ev _ _ _ = _).trans (congrArg Value.bool (bF t))) rfl) rfl <| oN ?_
   obtain rfl := oJ A
   exact ⟨aV, rfl, aE, hs, rfl, M, l, U⟩
 clear A hs
 rintro f ds w ⟨aA, rfl, T, hs, htbb44, am, al, aG⟩
 refine oN <| sK ?_
 by_cases af : av = true
 · rw [if_pos af] at hm
   refine cIt htbb44 af <| cQ <| cR <| asI rfl <| oN <| sK <| cw_ret <| seqK_r <| rK (rs := [.tmp 4]) (vs := [iN 32]) (.inr rfl) rfl ⟨rfl, trivial⟩ ?_
   obtain rfl := oJ hm
   replace hs := hs.erase 0
   replace hs := hs.erase 0
   exact ⟨aA, (((((((Q.trans H).trans G).trans E).trans D).trans R).trans C).trans T), hs, rfl⟩
 rw [if_neg af] at hm
 refine cIf htbb44 (bF af) <| cw_skip <| sQR <| cR ?_
 obtain ⟨aT, aI, hm⟩ := bS hm
 refine oC (fi := []) (vs := []) (ca := []) rfl trivial en43 (f43_ok  aI hs) ?_
 clear hs; rintro _ w ⟨a0, ad, hs, rfl⟩
 refine ow_alloc hs ty165 rfl ?_
 clear hs; intro aO w hs
 refine oS (k := 0) (vs := (.bool false :: .bool false :: .bool false :: .bool false :: iN 0 :: .nilFunc :: .bool true :: .bool false :: .bool false :: .bool true :: iN 2147483648 :: .func (.func 75) #[] #[] :: .bool false :: .bool true :: .bool false :: .bool true :: iN 0 :: .func (.func 76) #[] #[] :: .bool true :: .bool false :: .bool false :: .bool false :: iN 2147483648 :: .func (.func 77) #[] #[] :: .bool true :: .bool true :: .bool false :: .bool false :: iN 0 :: .func (.func 78) #[] #[] :: .bool true :: .bool true :: .bool true :: .bool false :: iN 0 :: .func (.func 79) #[] #[] :: .bool true :: .bool true :: .bool false :: .bool false :: iN 65536 :: .func (.func 80) #[] #[] :: [])) (cs' := (.bool false :: .bool false :: .bool false :: .bool false :: iN 0 :: .nilFunc :: .bool true :: .bool false :: .bool false :: .bool true :: iN 2147483648 :: .func (.func 75) #[] #[] :: .bool false :: .bool true :: .bool false :: .bool true :: iN 0 :: .func (.func 76) #[] #[] :: .bool true :: .bool false :: .bool false :: .bool false :: iN 2147483648 :: .func (.func 77) #[] #[] :: .bool true :: .bool true :: .bool false :: .bool false :: iN 0 :: .func (.func 78) #[] #[] :: .bool true :: .bool true :: .bool true :: .bool false :: iN 0 :: .func (.func 79) #[] #[] :: .bool true :: .bool true :: .bool false :: .bool false :: iN 65536 :: .func (.func 80) #[] #[] :: [])) hs rfl rfl rfl ty165 rfl rfl (nLe rfl) rfl rfl ?_
 clear hs; intro w hs
 refine oN <| sQR <| cQ <| cR <| oF (b := Z) (o := 0) fl81_4 al <| ld1 (k := 1) hs rfl rfl ty79 rfl ?_
 replace hs := hs.front (k := 2) rfl
 obtain ⟨aZ, ac, ao, hs⟩ := hs.freezeB
 obtain ⟨aY, S, aN, hs⟩ := hs.freezeB
 refine oV (x_funcL (vf := []) (vc := [pQ b1 0, pQ aO 0]) trivial ⟨am, rfl, trivial⟩) rfl ?_
 obtain ⟨aC, aH, hm⟩ := bS hm
 replace aa := aa.mono ((((((((((Q.trans H).trans G).trans E).trans D).trans R).trans C).trans T).trans ad).trans ac).trans S); replace ao := ao.mono S
 refine oC (fi := []) (vs := [.slice q e.length m, .func (.func 70) #[] #[pQ b1 0, pQ aO 0]]) (ca := []) rfl ⟨rfl, rfl, trivial⟩ en69 (f69_ok _ _ _ _ aH hs aa ao aN) ?_
 clear hs; rintro _ w ⟨aP, an, hs, rfl⟩
 refine oN <| sK ?_
 by_cases ae : aC = true
 · rw [if_pos ae] at hm
   refine cIt rfl ae <| cQ <| cR <| asI rfl <| oN <| sK <| cw_ret <| seqK_r <| rK (rs := [.tmp 4]) (vs := [iN 32]) (.inr rfl) rfl ⟨rfl, trivial⟩ ?_
   obtain rfl := oJ hm
   replace hs := hs.erase 0
   exact ⟨aP, (((((((((((Q.trans H).trans G).trans E).trans D).trans R).trans C).trans T).trans ad).trans ac).trans S).trans an), hs, rfl⟩
 rw [if_neg ae] at hm
 refine cIf rfl (bF ae) <| cw_skip <| sQR <| cR <| asI rfl <| oN <| sK <| cw_ret <| rK (rs := [.tmp 4]) (vs := [iN 0]) (.inr rfl) rfl ⟨rfl, trivial⟩ ?_
 obtain rfl := oJ hm
 replace hs := hs.erase 0
 exact ⟨aP, (((((((((((Q.trans H).trans G).trans E).trans D).trans R).trans C).trans T).trans ad).trans ac).trans S).trans an), hs, rfl⟩
def f73_m (d : Int) (c : Int) (a : List Int) (p : Int) (m : Int) : Option Bool :=
  ((f74_m d c a).bind fun O => ((if ¬ (O = 0) then some true else some (decide (¬ (d = p)))).bind fun N => ((if N = true then some true else some (decide (¬ (c = m)))).bind fun B => some B)))
theorem f73_ok (d : Int) (c : Int) (a : List Int) (p : Int) (m : Int) {r : Bool} (hm : f73_m d c a p m = some r) {h : Option Addr} {e : Nat} {L : Nat} {G : Nat} {I : Im} {F : List HP} {w : World} (hs : Sat I (F) w) (D : Rs I 1 h a.length e (a.flatMap e64)) (y : Ib I L 3 [iN p]) (x : Ib I G 3 [iN m]) :
    CV P 73 [.agg (cL0 d c h a.length e).toArray, pQ L 0, pQ G 0] w fun v w' => ∃ (J : Im), Im.le I J ∧ Sat J (F) w' ∧ v = .bool r := by
 unfold f73_m at hm
 refine cv_of (n := 20) Proofs.Tryz.func73 rfl rfl (nLe rfl) <| cQ <| cR <| oB (v := .agg (cL0 d c h a.length e).toArray) (cs := (cL0 d c h a.length e)) hs rfl rfl ?_
 clear hs; intro M w hs
 refine asB rfl <| oN <| sQR <| cR <| oL (k := 0) (vs := (cL0 d c h a.length e)) (v := .agg (cL0 d c h a.length e).toArray) hs rfl rfl ty26 rfl rfl rfl ?_
 obtain ⟨O, Q, hm⟩ := bS hm
 refine oC (fi := []) (vs := [.agg (cL0 d c h a.length e).toArray]) (ca := []) rfl ⟨rfl, trivial⟩ en74 (f74_ok _ _ _ Q hs D) ?_
 clear hs; rintro _ w ⟨R, t, hs, rfl⟩
 refine oV (x_neqD rfl rfl) rfl <| mB rfl ?_
 obtain ⟨N, q, hm⟩ := bS hm
 refine oJN 5 (fun f ds w => ∃ (H : Im), ds = [] ∧ Im.le R H ∧ Sat H (blk M 26 (cL0 d c h a.length e) :: F) w ∧ f 13 = .bool N ∧ f 2 = pQ G 0 ∧ f 3 = pQ M 0 ∧ f 4 = .bool false) ?_ ?_
 · by_cases j : ¬ (O = 0)
   · rw [if_pos j] at q
     refine oO (b := true) (yO rfl rfl (dT j)) rfl <| oO (b := true) (yO rfl rfl (dT j)) rfl <| oO (b := true) (yO rfl rfl (dT j)) rfl <| oO (b := true) (yO rfl rfl (dT j)) rfl <| oV (xPt (v := .bool true) ((rfl : ev _ _ _ = _).trans (congrArg Value.bool (dT j))) rfl) rfl <| oN ?_
     obtain rfl := oJ q
     exact ⟨R, rfl, iR, hs, rfl, rfl, rfl, rfl⟩
   rw [if_neg j] at q
   refine oG (yO rfl rfl (dF j)) <| oF (b := M) (o := 0) fl26_0 rfl <| oG (yO rfl rfl (dF j)) <| ld1 (k := 0) hs rfl rfl ty3 rfl <| oG (yO rfl rfl (dF j)) ?_
   replace y := y.mono t
   refine ld1I hs y rfl ty3 rfl <| oG (yO rfl rfl (dF j)) <| oV (x_neqD rfl rfl) rfl <| oV (xPf (v := .bool (decide (¬ (d = p)))) ((rfl : ev _ _ _ = _).trans (congrArg Value.bool (dF j))) rfl) rfl <| oN ?_
   obtain rfl := oJ q
   exact ⟨R, rfl, iR, hs, rfl, rfl, rfl, rfl⟩
 clear q hs
 rintro f ds w ⟨H, rfl, u, hs, htbb8, A, z, s⟩
 refine mB htbb8 ?_
 obtain ⟨B, l, hm⟩ := bS hm
 refine oJN 5 (fun f ds w => ∃ (C : Im), ds = [] ∧ Im.le H C ∧ Sat C (blk M 26 (cL0 d c h a.length e) :: F) w ∧ f 19 = .bool B ∧ f 4 = .bool false) ?_ ?_
 · by_cases i : N = true
   · rw [if_pos i] at l
     refine oO (b := true) (yO rfl rfl i) rfl <| oO (b := true) (yO rfl rfl i) rfl <| oO (b := true) (yO rfl rfl i) rfl <| oO (b := true) (yO rfl rfl i) rfl <| oV (xPt (v := .bool true) ((rfl : ev _ _ _ = _).trans (congrArg Value.bool i)) rfl) rfl <| oN ?_
     obtain rfl := oJ l
     exact ⟨H, rfl, iR, hs, rfl, s⟩
   rw [if_neg i] at l
   refine oG (yO rfl rfl (bF i)) <| oF (b := M) (o := 0) fl26_1 z <| oG (yO rfl rfl (bF i)) <| ld1 (k := 0) hs rfl rfl ty3 rfl <| oG (yO rfl rfl (bF i)) ?_
   replace x := x.mono (t.trans u)
   refine ld1I hs x A ty3 rfl <| oG (yO rfl rfl (bF i)) <| oV (x_neqD rfl rfl) rfl <| oV (xPf (v := .bool (decide (¬ (c = m)))) ((rfl : ev _ _ _ = _).trans (congrArg Value.bool (bF i))) rfl) rfl <| oN ?_
   obtain rfl := oJ l
   exact ⟨H, rfl, iR, hs, rfl, s⟩
 clear l hs
 rintro f ds w ⟨C, rfl, E, hs, htbb12, K⟩
 refine asB htbb12 <| oN <| sK <| cw_ret <| rK (rs := [.tmp 4]) (vs := [.bool B]) (.inr rfl) rfl ⟨rfl, trivial⟩ ?_
 obtain rfl := oJ hm
 replace hs := hs.erase 0
 exact ⟨C, ((t.trans u).trans E), hs, rfl⟩
def f113_l0 (j : List (Int × Int × List Int)) (c : Int) (b : Int) : Nat → Int → Option (Sum Unit Int)
  | 0, _ => none
  | k + 1, a => (if a < (j.length : Int) then (if 0 ≤ a ∧ a < (j.length : Int) then ((f73_m ((at' j a).1) ((at' j a).2.1) ((at' j a).2.2) c b).bind fun H => (if H = true then some (Sum.inr a) else (f113_l0 j c b k (w64 (a + 1))))) else none) else some (Sum.inl ()))
def f113_m (j : List (Int × Int × List Int)) (c : Int) (b : Int) : Option Int :=
  (lb (S := Unit) (f113_l0 j c b FUEL 0) id (fun G => some (-1)))
theorem f113_ok (j : List (Int × Int × List Int)) (c : Int) (b : Int) {r : Int} (hm : f113_m j c b = some r) {N : Option Addr} {L : Nat} {h : Nat} {e : Nat} {I : Im} {F : List HP} {w : World} (hs : Sat I (F) w) (B : SN26 I N j.length L j) (o : Ib I h 3 [iN c]) (m : Ib I e 3 [iN b]) :
    CV P 113 [.slice N j.length L, .func (.func 73) #[] #[pQ h 0, pQ e 0]] w fun v w' => ∃ (J : Im), Im.le I J ∧ Sat J (F) w' ∧ v = iN r := by
 unfold f113_m at hm
 refine cv_of (n := 19) Proofs.Tryz.func113 rfl rfl (nLe rfl) <| cQ <| cR <| asI rfl <| oN <| sK ?_
 obtain ⟨Q, U, E⟩ := lb_some hm
 replace hm := U; clear U
 refine cJ (fun f ds w => ∃ (G : Unit) (D : Im), ds = [] ∧ Im.le I D ∧ Q = Sum.inl G ∧ Sat D (F) w ∧ f 4 = iN 0) ?_ ?_
 · refine cQ <| cR <| mS rfl <| oV (x_len sl86 rfl) rfl <| mI rfl <| oN <| sK <| cw_block ?_
   refine cL (S := fun k f ds w => ∃ (a : Int), ∃ (C : Im), ds = [] ∧ Im.le I C ∧ f113_l0 j c b k a = some Q ∧ Sat C (F) w ∧ f 0 = .slice N j.length L ∧ f 1 = .func (.func 73) #[] #[pQ h 0, pQ e 0] ∧ f 4 = iN 0 ∧ f 7 = iN (j.length : Int) ∧ f 8 = iN a) ?_ (k := FUEL) ⟨0, I, rfl, iR, hm, hs, rfl, rfl, rfl, rfl, rfl⟩
   clear hm hs
   rintro k f ds w ⟨a, C, rfl, d, hm, hs, x, u, t, s, l⟩
   rcases k with _ | k
   · unfold f113_l0 at hm; cases hm
   unfold f113_l0 at hm
   refine cQ <| cR <| oV (x_lss l s) rfl <| oN <| sQR ?_
   by_cases z : a < (j.length : Int)
   · rw [if_pos z] at hm
     refine cIt rfl (dT z) <| cw_skip <| sQR <| cw_block <| cQ <| cR <| mI l <| asI rfl <| oN <| sQR ?_
     refine cR <| oV (xM (v := .func (.func 73) #[] #[pQ h 0, pQ e 0]) u) rfl <| mS x <| mI rfl ?_
     have q := (iS hm).1
     replace hm := (iS hm).2
     replace B := B.mono d
     refine oI (i := a) sl86 ty26 rfl rfl q.1 q.2 (SN26.some B (by have := q; omega)) ?_
     obtain ⟨csu69, hru69, hnu69⟩ := (id B)
     obtain ⟨vsu69, hvu69, O, M, rfl, V⟩ := NL.at rl26.len hnu69 q.1 q.2
     refine oLR (p := a.toNat * 3) (vs := (rL2 (at' j a) O M)) (v := .agg (rL2 (at' j a) O M).toArray) hs hru69 rfl ty26 ((cells_part hvu69 0 3 (by decide)).trans rfl) rfl rfl ?_
     obtain ⟨H, T, hm⟩ := bS hm
     replace o := o.mono d; replace m := m.mono d
     refine oC (fi := []) (vs := [.agg (rL2 (at' j a) O M).toArray]) (ca := [pQ h 0, pQ e 0]) rfl ⟨rfl, trivial⟩ en73 (f73_ok _ _ _ _ _ T hs V o m) ?_
     clear hs; rintro _ w ⟨W, A, hs, rfl⟩
     refine oN <| sK ?_
     by_cases y : H = true
     · rw [if_pos y] at hm
       refine cIt rfl y <| cQ <| cR <| mI rfl <| asI rfl <| oN <| sK <| cw_ret <| blockK_r <| seqK_r <| loopK_r <| blockK_r ?_
       refine joinK_r <| rK (rs := [.tmp 4]) (vs := [iN a]) (.inr rfl) rfl ⟨rfl, trivial⟩ ?_
       replace hm := lret hm E
       obtain rfl := oJ hm
       exact ⟨W, (d.trans A), hs, rfl⟩
     rw [if_neg y] at hm
     refine cIf rfl (bF y) <| cw_skip <| blockK_n <| sK <| cR <| oV (x_add l rfl) rfl <| mI rfl <| oN ?_
     exact lN ⟨k, Nat.lt_succ_self k, w64 (a + 1), W, rfl, (d.trans A), hm, hs, x, u, t, s, rfl⟩
   rw [if_neg z] at hm
   refine cIf rfl (dF z) <| cw_exit <| seqK_x <| loopK_x <| blockK_hit ?_
   obtain rfl := oJ hm
   refine jN ⟨(), C, rfl, d, rfl, hs, t⟩
 clear hm hs
 rintro f ds w ⟨G, D, rfl, K, rfl, hs, R⟩
 replace hm := lexit rfl E
 refine cQ <| cR <| asI rfl <| oN <| sK <| cw_ret <| rK (rs := [.tmp 4]) (vs := [iN (-1)]) (.inr rfl) rfl ⟨rfl, trivial⟩ ?_
 obtain rfl := oJ hm
 exact ⟨D, K, hs, rfl⟩
def f72_m (h : List (Int × Int × List Int)) (b : Int) (a : Int) : Option Bool :=
  ((f113_m h b a).bind fun l => some (decide (0 ≤ l)))
theorem f72_ok (h : List (Int × Int × List Int)) (b : Int) (a : Int) {r : Bool} (hm : f72_m h b a = some r) {j : Option Addr} {i : Nat} {d : Nat} {c : Nat} {I : Im} {F : List HP} {w : World} (hs : Sat I (F) w) (m : SN26 I j h.length i h) (f : Ib I d 3 [iN b]) (e : Ib I c 3 [iN a]) :
    CV P 72 [.slice j h.length i, .func (.func 73) #[] #[pQ d 0, pQ c 0]] w fun v w' => ∃ (J : Im), Im.le I J ∧ Sat J (F) w' ∧ v = .bool r := by
 unfold f72_m at hm
 refine cv_of (n := 9) Proofs.Tryz.func72 rfl rfl (nLe rfl) <| cQ <| cR <| asB rfl <| oN <| sQR <| cR <| mS rfl <| oV (xM (v := .func (.func 73) #[] #[pQ d 0, pQ c 0]) rfl) rfl ?_
 obtain ⟨l, o, hm⟩ := bS hm
 refine oC (fi := []) (vs := [.slice j h.length i, .func (.func 73) #[] #[pQ d 0, pQ c 0]]) (ca := []) rfl ⟨rfl, rfl, trivial⟩ en113 (f113_ok _ _ _ o hs m f e) ?_
 clear hs; rintro _ w ⟨p, k, hs, rfl⟩
 refine oV (x_geq rfl rfl) rfl <| asB rfl <| oN <| sK <| cw_ret <| rK (rs := [.tmp 4]) (vs := [.bool (decide (0 ≤ l))]) (.inr rfl) rfl ⟨rfl, trivial⟩ ?_
 obtain rfl := oJ hm
 exact ⟨p, k, hs, rfl⟩
def f42_m (e : List (Int × Int × List Int)) (y : Int) (x : Int) (u : Int) : Option Bool :=
  ((if (e.length : Int) = y then ((f72_m e x u).bind fun h => some (!h)) else some false).bind fun i => some i)
theorem f42_ok (e : List (Int × Int × List Int)) (y : Int) (x : Int) (u : Int) {r : Bool} (hm : f42_m e y x u = some r) {t : Option Addr} {s : Nat} {I : Im} {F : List HP} {w : World} (hs : Sat I (F) w) (m : SN26 I t e.length s e) :
    CV P 42 (cL18 t e.length s y x u) w fun v w' => ∃ (J : Im), Im.le I J ∧ Sat J (F) w' ∧ v = .bool r := by
 unfold f42_m at hm
 refine cv_of (n := 19) Proofs.Tryz.func42 rfl rfl (nLe rfl) <| cQ <| cR <| oB (v := iN x) (cs := [iN x]) hs rfl rfl ?_
 clear hs; intro E w hs
 refine oB (v := iN u) (cs := [iN u]) hs rfl rfl ?_
 clear hs; intro D w hs
 refine asB rfl <| oN <| sQR ?_
 replace hs := hs.front (k := 1) rfl
 obtain ⟨H, l, q, hs⟩ := hs.freezeB
 obtain ⟨G, d, B, hs⟩ := hs.freezeB
 refine cR <| mS rfl <| oV (x_len sl86 rfl) rfl <| mI rfl <| oV (x_eql rfl rfl) rfl <| mB rfl ?_
 obtain ⟨i, c, hm⟩ := bS hm
 refine oJN 5 (fun f ds w => ∃ (j : Im), ds = [] ∧ Im.le G j ∧ Sat j (F) w ∧ f 18 = .bool i ∧ f 8 = .bool false) ?_ ?_
 · by_cases a : (e.length : Int) = y
   · rw [if_pos a] at c
     refine oG (yO rfl rfl (dT a)) <| mS rfl <| oG (yO rfl rfl (dT a)) <| oV (x_funcL (vf := []) (vc := [pQ E 0, pQ D 0]) trivial ⟨rfl, rfl, trivial⟩) rfl <| oG (yO rfl rfl (dT a)) ?_
     obtain ⟨h, A, c⟩ := bS c
     replace m := m.mono (l.trans d); replace q := q.mono d
     refine oC (fi := []) (vs := [.slice t e.length s, .func (.func 73) #[] #[pQ E 0, pQ D 0]]) (ca := []) rfl ⟨rfl, rfl, trivial⟩ en72 (f72_ok _ _ _ A hs m q B) ?_
     clear hs; rintro _ w ⟨C, o, hs, rfl⟩
     refine oG (yO rfl rfl (dT a)) <| oV (x_not (b := h) rfl) rfl <| oV (xPt (v := .bool (!h)) ((rfl : ev _ _ _ = _).trans (congrArg Value.bool (dT a))) rfl) rfl <| oN ?_
     obtain rfl := oJ c
     exact ⟨C, rfl, o, hs, rfl, rfl⟩
   rw [if_neg a] at c
   refine oO (b := false) (yO rfl rfl (dF a)) rfl <| oO (b := false) (yO rfl rfl (dF a)) rfl <| oO (b := false) (yO rfl rfl (dF a)) rfl <| oO (b := false) (yO rfl rfl (dF a)) rfl <| oV (xPf (v := .bool false) ((rfl : ev _ _ _ = _).trans (congrArg Value.bool (dF a))) rfl) rfl <| oN ?_
   obtain rfl := oJ c
   exact ⟨G, rfl, iR, hs, rfl, rfl⟩
 clear c hs
 rintro f ds w ⟨j, rfl, p, hs, htbb11, z⟩
 refine asB htbb11 <| oN <| sK <| cw_ret <| rK (rs := [.tmp 8]) (vs := [.bool i]) (.inr rfl) rfl ⟨rfl, trivial⟩ ?_
 obtain rfl := oJ hm
 exact ⟨j, ((l.trans d).trans p), hs, rfl⟩
end Go.HL.Tz
