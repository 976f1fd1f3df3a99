/- The walks of some functions, printed by a program of ours (gox). -/
import Derived.Test.YtllfmfoahloldaaGreatZJ
import Derived.Test.YtllfmfoahloldaaGreatHL20
set_option linter.unusedVariables false
set_option linter.unusedSimpArgs false
set_option maxRecDepth 100000
set_option maxHeartbeats 400000
namespace Go.HL.Tz
open Go.HL
attribute [local irreducible] OW CW CV
def enc99 (x : Int × Int) : List Value := [iN x.1, iN x.2]
theorem ty101 : TyC P 101 false [.slice none 0 0] := ⟨by kernel_rfl, by kernel_rfl, (fun _ => rfl), by kernel_rfl⟩
theorem ty99 : TyC P 99 true [iN 0, iN 0] := ⟨by kernel_rfl, by kernel_rfl, (fun h => by cases h), by kernel_rfl⟩
theorem sl101 : SliceT P 101 99 := (by kernel_rfl : P.underlying 101 = some (.slice 99))
theorem el99 : ElT P 99 [iN 0, iN 0] 16 := ⟨by kernel_rfl⟩
theorem en52 : Proofs.Enters P 52 := Proofs.enters_of Proofs.Tryz.func52 (by kernel_rfl) rfl
theorem en309 : Proofs.Enters P 309 := Proofs.enters_of Proofs.Tryz.func309 (by kernel_rfl) rfl
theorem en308 : Proofs.Enters P 308 := Proofs.enters_of Proofs.Tryz.func308 (by kernel_rfl) rfl
theorem en51 : Proofs.Enters P 51 := Proofs.enters_of Proofs.Tryz.func51 (by kernel_rfl) rfl
theorem en25 : Proofs.Enters P 25 := Proofs.enters_of Proofs.Tryz.func25 (by kernel_rfl) rfl
theorem en21 : Proofs.Enters P 21 := Proofs.enters_of Proofs.Tryz.func21 (by kernel_rfl) rfl
theorem en22 : Proofs.Enters P 22 := Proofs.enters_of Proofs.Tryz.func22 (by kernel_rfl) rfl
theorem sl92 : SliceT P 92 94 := (by kernel_rfl : P.underlying 92 = some (.slice 94))
theorem ty94 : TyC P 94 false [iN 0] := ⟨by kernel_rfl, by kernel_rfl, (fun _ => rfl), by kernel_rfl⟩
theorem el94 : ElT P 94 [iN 0] 8 := ⟨by kernel_rfl⟩
theorem en24 : Proofs.Enters P 24 := Proofs.enters_of Proofs.Tryz.func24 (by kernel_rfl) rfl
theorem en307 : Proofs.Enters P 307 := Proofs.enters_of Proofs.Tryz.func307 (by kernel_rfl) rfl
theorem en306 : Proofs.Enters P 306 := Proofs.enters_of Proofs.Tryz.func306 (by kernel_rfl) rfl
theorem en23 : Proofs.Enters P 23 := Proofs.enters_of Proofs.Tryz.func23 (by kernel_rfl) rfl
theorem en27 : Proofs.Enters P 27 := Proofs.enters_of Proofs.Tryz.func27 (by kernel_rfl) rfl
theorem en116 : Proofs.Enters P 116 := Proofs.enters_of Proofs.Tryz.func116 (by kernel_rfl) rfl
theorem it204 : IntT P 204 .u64 := (by kernel_rfl : P.underlying 204 = some (.int .u64))
theorem en81 : Proofs.Enters P 81 := Proofs.enters_of Proofs.Tryz.func81 (by kernel_rfl) rfl
theorem el4 : ElT P 4 [.bool false] 1 := ⟨by kernel_rfl⟩
theorem fl90_0 : FldT P 90 0 0 := ⟨by kernel_rfl⟩
theorem fl90_1 : FldT P 90 1 1 := ⟨by kernel_rfl⟩
theorem fl90_2 : FldT P 90 2 2 := ⟨by kernel_rfl⟩
theorem fl90_3 : FldT P 90 3 3 := ⟨by kernel_rfl⟩
theorem fl90_4 : FldT P 90 4 4 := ⟨by kernel_rfl⟩
theorem en46 : Proofs.Enters P 46 := Proofs.enters_of Proofs.Tryz.func46 (by kernel_rfl) rfl
theorem st40 : StrT P 40 [(0, 1), (1, 1), (2, 1)] := ⟨by kernel_rfl⟩
theorem en47 : Proofs.Enters P 47 := Proofs.enters_of Proofs.Tryz.func47 (by kernel_rfl) rfl
theorem en48 : Proofs.Enters P 48 := Proofs.enters_of Proofs.Tryz.func48 (by kernel_rfl) rfl
theorem st35 : StrT P 35 [(0, 1), (1, 1), (2, 1), (3, 1), (4, 1)] := ⟨by kernel_rfl⟩
theorem ty35 : TyC P 35 true [iN 0, iN 0, iN 0, iN 0, iN 0] := ⟨by kernel_rfl, by kernel_rfl, (fun h => by cases h), by kernel_rfl⟩
theorem en49 : Proofs.Enters P 49 := Proofs.enters_of Proofs.Tryz.func49 (by kernel_rfl) rfl
def f52_m (a : Int) : Option (Int × Int) :=
  some (a, a)
theorem f52_ok (a : Int) {r : Int × Int} (hm : f52_m a = some r)  {I : Im} {F : List HP} {w : World} (hs : Sat I (F) w)  :
    CV P 52 [iN a] w fun v w' => ∃ (J : Im), Im.le I J ∧ Sat J (F) w' ∧ v = .agg #[iN r.1, iN r.2] := by
 unfold f52_m at hm
 refine cv_of (n := 6) Proofs.Tryz.func52 rfl rfl (nLe rfl) <| cQ <| cR <| ow_alloc hs ty99 rfl ?_
 clear hs; intro b w hs
 refine oN <| sQR <| cR <| mI rfl <| mI rfl <| ow_buildA (vp := [(0, iN a), (1, iN a)]) (cs := [iN a, iN a]) ar99 ty3 ty99 ⟨rfl, rfl, rfl, rfl, trivial⟩ rfl <| oS (k := 0) (vs := [iN a, iN a]) (cs' := [iN a, iN a]) hs rfl rfl rfl ty99 rfl rfl (nLe rfl) rfl rfl ?_
 clear hs; intro w hs
 refine oN <| sK <| cw_ret <| rK (rs := [.cell 2 99]) (vs := [.agg #[iN a, iN a]]) (.inr rfl) rfl ⟨⟨_, true, _, [iN a, iN a], rfl, ty99, CA_blk (off := 0) (m := 2) (hs.blk (k := 0) rfl), rfl, rfl⟩, trivial⟩ ?_
 obtain rfl := oJ hm
 replace hs := hs.erase 0
 exact ⟨I, iR, hs, rfl⟩
def f309_m (e : Int) (d : Int) (f : Int) (c : Int) (a : Int) : Option (Int × Int) :=
  (if f < 0 then some (w64 (e + (w64 (f * a))), w64 (d + (w64 (f * c)))) else some (w64 (e + (w64 (f * c))), w64 (d + (w64 (f * a)))))
theorem f309_ok (e : Int) (d : Int) (f : Int) (c : Int) (a : Int) {r : Int × Int} (hm : f309_m e d f c a = some r)  {I : Im} {F : List HP} {w : World} (hs : Sat I (F) w)  :
    CV P 309 [.agg #[iN e, iN d], iN f, .agg #[iN c, iN a]] w fun v w' => ∃ (J : Im), Im.le I J ∧ Sat J (F) w' ∧ v = .agg #[iN r.1, iN r.2] := by
 unfold f309_m at hm
 refine cv_of (n := 30) Proofs.Tryz.func309 rfl rfl (nLe rfl) <| cQ <| cR <| oB (v := .agg #[iN e, iN d]) (cs := [iN e, iN d]) hs rfl rfl ?_
 clear hs; intro l w hs
 refine oB (v := .agg #[iN c, iN a]) (cs := [iN c, iN a]) hs rfl rfl ?_
 clear hs; intro j w hs
 refine ow_alloc hs ty99 rfl ?_
 clear hs; intro p w hs
 refine oN <| sQR <| cQ <| cR <| mI rfl <| oV (x_lss rfl rfl) rfl <| oN <| sK ?_
 by_cases h : f < 0
 · rw [if_pos h] at hm
   refine cIt rfl (dT h) <| cR <| ow_indexA (b := j) (o := 0) (i := 1) ar99 ty3 rfl rfl (by decide) (by decide) <| ld1 (k := 1) hs rfl rfl ty3 rfl <| ow_indexA (b := j) (o := 0) (i := 0) ar99 ty3 rfl rfl (by decide) (by decide) <| ld1 (k := 1) hs rfl rfl ty3 rfl <| ow_indexA (b := j) (o := 0) (i := 0) ar99 ty3 rfl rfl (by decide) (by decide) <| oS (k := 1) (vs := [iN a]) (cs' := [iN a, iN a]) hs rfl rfl rfl ty3 rfl rfl (nLe rfl) rfl rfl ?_
   clear hs; intro w hs
   refine ow_indexA (b := j) (o := 0) (i := 1) ar99 ty3 rfl rfl (by decide) (by decide) <| oS (k := 1) (vs := [iN c]) (cs' := [iN a, iN c]) hs rfl rfl rfl ty3 rfl rfl (nLe rfl) rfl rfl ?_
   clear hs; intro w hs
   refine oN <| sQR <| cR <| ow_indexA (b := l) (o := 0) (i := 0) ar99 ty3 rfl rfl (by decide) (by decide) <| ld1 (k := 2) hs rfl rfl ty3 rfl <| mI rfl <| ow_indexA (b := j) (o := 0) (i := 0) ar99 ty3 rfl rfl (by decide) (by decide) <| ld1 (k := 1) hs rfl rfl ty3 rfl <| oV (x_mul rfl rfl) rfl <| oV (x_add rfl rfl) rfl <| ow_indexA (b := l) (o := 0) (i := 1) ar99 ty3 rfl rfl (by decide) (by decide) ?_
   refine ld1 (k := 2) hs rfl rfl ty3 rfl <| mI rfl <| ow_indexA (b := j) (o := 0) (i := 1) ar99 ty3 rfl rfl (by decide) (by decide) <| ld1 (k := 1) hs rfl rfl ty3 rfl <| oV (x_mul rfl rfl) rfl <| oV (x_add rfl rfl) rfl <| ow_buildA (vp := [(0, iN (w64 (e + (w64 (f * a))))), (1, iN (w64 (d + (w64 (f * c)))))]) (cs := [iN (w64 (e + (w64 (f * a)))), iN (w64 (d + (w64 (f * c))))]) ar99 ty3 ty99 ⟨rfl, rfl, rfl, rfl, trivial⟩ rfl <| oS (k := 0) (vs := [iN (w64 (e + (w64 (f * a)))), iN (w64 (d + (w64 (f * c))))]) (cs' := [iN (w64 (e + (w64 (f * a)))), iN (w64 (d + (w64 (f * c))))]) hs rfl rfl rfl ty99 rfl rfl (nLe rfl) rfl rfl ?_
   clear hs; intro w hs
   refine oN <| sK <| cw_ret <| rK (rs := [.cell 6 99]) (vs := [.agg #[iN (w64 (e + (w64 (f * a)))), iN (w64 (d + (w64 (f * c))))]]) (.inr rfl) rfl ⟨⟨_, true, _, [iN (w64 (e + (w64 (f * a)))), iN (w64 (d + (w64 (f * c))))], rfl, ty99, CA_blk (off := 0) (m := 2) (hs.blk (k := 0) rfl), rfl, rfl⟩, trivial⟩ ?_
   obtain rfl := oJ hm
   replace hs := hs.erase 0
   replace hs := hs.erase 0
   replace hs := hs.erase 0
   exact ⟨I, iR, hs, rfl⟩
 rw [if_neg h] at hm
 refine cIf rfl (dF h) <| cw_skip <| sQR <| cR <| ow_indexA (b := l) (o := 0) (i := 0) ar99 ty3 rfl rfl (by decide) (by decide) <| ld1 (k := 2) hs rfl rfl ty3 rfl <| mI rfl <| ow_indexA (b := j) (o := 0) (i := 0) ar99 ty3 rfl rfl (by decide) (by decide) <| ld1 (k := 1) hs rfl rfl ty3 rfl <| oV (x_mul rfl rfl) rfl <| oV (x_add rfl rfl) rfl ?_
 refine ow_indexA (b := l) (o := 0) (i := 1) ar99 ty3 rfl rfl (by decide) (by decide) <| ld1 (k := 2) hs rfl rfl ty3 rfl <| mI rfl <| ow_indexA (b := j) (o := 0) (i := 1) ar99 ty3 rfl rfl (by decide) (by decide) <| ld1 (k := 1) hs rfl rfl ty3 rfl <| oV (x_mul rfl rfl) rfl <| oV (x_add rfl rfl) rfl <| ow_buildA (vp := [(0, iN (w64 (e + (w64 (f * c))))), (1, iN (w64 (d + (w64 (f * a)))))]) (cs := [iN (w64 (e + (w64 (f * c)))), iN (w64 (d + (w64 (f * a))))]) ar99 ty3 ty99 ⟨rfl, rfl, rfl, rfl, trivial⟩ rfl <| oS (k := 0) (vs := [iN (w64 (e + (w64 (f * c)))), iN (w64 (d + (w64 (f * a))))]) (cs' := [iN (w64 (e + (w64 (f * c)))), iN (w64 (d + (w64 (f * a))))]) hs rfl rfl rfl ty99 rfl rfl (nLe rfl) rfl rfl ?_
 clear hs; intro w hs
 refine oN <| sK <| cw_ret <| rK (rs := [.cell 6 99]) (vs := [.agg #[iN (w64 (e + (w64 (f * c)))), iN (w64 (d + (w64 (f * a))))]]) (.inr rfl) rfl ⟨⟨_, true, _, [iN (w64 (e + (w64 (f * c)))), iN (w64 (d + (w64 (f * a))))], rfl, ty99, CA_blk (off := 0) (m := 2) (hs.blk (k := 0) rfl), rfl, rfl⟩, trivial⟩ ?_
 obtain rfl := oJ hm
 replace hs := hs.erase 0
 replace hs := hs.erase 0
 replace hs := hs.erase 0
 exact ⟨I, iR, hs, rfl⟩
def f308_m (d : Int) (c : Int) : Option (Int × Int) :=
  some (max d 0, max c 0)
theorem f308_ok (d : Int) (c : Int) {r : Int × Int} (hm : f308_m d c = some r)  {I : Im} {F : List HP} {w : World} (hs : Sat I (F) w)  :
    CV P 308 [.agg #[iN d, iN c]] w fun v w' => ∃ (J : Im), Im.le I J ∧ Sat J (F) w' ∧ v = .agg #[iN r.1, iN r.2] := by
 unfold f308_m at hm
 refine cv_of (n := 10) Proofs.Tryz.func308 rfl rfl (nLe rfl) <| cQ <| cR <| oB (v := .agg #[iN d, iN c]) (cs := [iN d, iN c]) hs rfl rfl ?_
 clear hs; intro e w hs
 refine ow_alloc hs ty99 rfl ?_
 clear hs; intro f w hs
 refine oN <| sQR <| cR <| ow_indexA (b := e) (o := 0) (i := 0) ar99 ty3 rfl rfl (by decide) (by decide) <| ld1 (k := 1) hs rfl rfl ty3 rfl <| oV (x_max2 (k := .i64) (a := d) (b := 0) rfl rfl) rfl <| ow_indexA (b := e) (o := 0) (i := 1) ar99 ty3 rfl rfl (by decide) (by decide) <| ld1 (k := 1) hs rfl rfl ty3 rfl <| oV (x_max2 (k := .i64) (a := c) (b := 0) rfl rfl) rfl <| ow_buildA (vp := [(0, iN (max d 0)), (1, iN (max c 0))]) (cs := [iN (max d 0), iN (max c 0)]) ar99 ty3 ty99 ⟨rfl, rfl, rfl, rfl, trivial⟩ rfl <| oS (k := 0) (vs := [iN (max d 0), iN (max c 0)]) (cs' := [iN (max d 0), iN (max c 0)]) hs rfl rfl rfl ty99 rfl rfl (nLe rfl) rfl rfl ?_
 clear hs; intro w hs
 refine oN <| sK <| cw_ret <| rK (rs := [.cell 2 99]) (vs := [.agg #[iN (max d 0), iN (max c 0)]]) (.inr rfl) rfl ⟨⟨_, true, _, [iN (max d 0), iN (max c 0)], rfl, ty99, CA_blk (off := 0) (m := 2) (hs.blk (k := 0) rfl), rfl, rfl⟩, trivial⟩ ?_
 obtain rfl := oJ hm
 replace hs := hs.erase 0
 replace hs := hs.erase 0
 exact ⟨I, iR, hs, rfl⟩
def f51_l2 (e : List (List (List Int) × List Int)) (s : List (Int × Int)) (d : Int) (l : Int) : Nat → Int → Int → Int → Option (Int × Int)
  | 0, _, _, _ => none
  | k + 1, q, x, u => (if q < ((at' ((at' e d).1) l).length : Int) then (if 0 ≤ q ∧ q < ((at' ((at' e d).1) l).length : Int) then (if 0 ≤ q ∧ q < (s.length : Int) then ((f309_m x u (at' (at' ((at' e d).1) l) q) ((at' s q).1) ((at' s q).2)).bind fun K => (f51_l2 e s d l k (w64 (q + 1)) K.1 K.2)) else none) else none) else some (x, u))
def f51_l1 (e : List (List (List Int) × List Int)) (s : List (Int × Int)) (d : Int) : Nat → Int → (List (Int × Int)) → Option (List (Int × Int))
  | 0, _, _ => none
  | k + 1, l, y => (if l < (((at' e d).2).length : Int) then ((if 0 ≤ l ∧ l < (((at' e d).2).length : Int) then ((f52_m (at' ((at' e d).2) l)).bind fun X => ((if 0 ≤ l ∧ l < (((at' e d).1).length : Int) then (f51_l2 e s d l FUEL 0 X.1 X.2) else none).bind fun (A : Int × Int) => (if d < (w64 ((e.length : Int) - 1)) then ((f308_m A.1 A.2).bind fun H => (if 0 ≤ l ∧ l < (y.length : Int) then some (y.set l.toNat (H.1, H.2)) else none)) else (if 0 ≤ l ∧ l < (y.length : Int) then some (y.set l.toNat (A.1, A.2)) else none)))) else none).bind fun (a1 : List (Int × Int)) => (f51_l1 e s d k (w64 (l + 1)) a1)) else some y)
def f51_l0 (e : List (List (List Int) × List Int)) : Nat → (List (Int × Int)) → Int → Option (List (Int × Int))
  | 0, _, _ => none
  | k + 1, s, d => (if d < (e.length : Int) then ((if 0 ≤ d ∧ d < (e.length : Int) then (if 0 ≤ (((at' e d).2).length : Int) ∧ (((at' e d).2).length : Int) ≤ (((at' e d).2).length : Int) ∧ (((at' e d).2).length : Int) ≤ 1099511627776 then ((f51_l1 e s d FUEL 0 (List.replicate (((at' e d).2).length : Int).toNat ((0, 0) : Int × Int))).bind fun (az : List (Int × Int)) => some az) else none) else none).bind fun (ax : List (Int × Int)) => (f51_l0 e k ax (w64 (d + 1)))) else some s)
def f51_m (ag : Int) (af : Int) (ae : Int) (ad : Int) (e : List (List (List Int) × List Int)) (ac : Int) (ab : Int) (x1 : List (Int × Int)) : Option (Int × Int) :=
  ((f51_l0 e FUEL x1 0).bind fun (B : List (Int × Int)) => (if 0 ≤ (0 : Int) ∧ (0 : Int) < (B.length : Int) then some ((at' B (0 : Int)).1, (at' B (0 : Int)).2) else none))
theorem f51_ok (ag : Int) (af : Int) (ae : Int) (ad : Int) (e : List (List (List Int) × List Int)) (ac : Int) (ab : Int) (x1 : List (Int × Int)) {r : Int × Int} (hm : f51_m ag af ae ad e ac ab x1 = some r) {E : Option Addr} {D : Nat} {cT : Option Addr} {cS : Nat} {I : Im} {F : List HP} {w : World} (hs : Sat I (F) w) (a9 : SN59 I E e.length D e) (c2 : Rs I 2 cT x1.length cS (x1.flatMap enc99)) :
    CV P 51 [.agg (cL4 ag af ae ad E e.length D ac ab).toArray, .slice cT x1.length cS, .func (.func 52) #[] #[]] w fun v w' => ∃ (J : Im), Im.le I J ∧ Sat J (F) w' ∧ v = .agg #[iN r.1, iN r.2] := by
 unfold f51_m at hm
 refine cv_of (n := 77) Proofs.Tryz.func51 rfl rfl (nLe rfl) <| cQ <| cR <| oB (v := .agg (cL4 ag af ae ad E e.length D ac ab).toArray) (cs := (cL4 ag af ae ad E e.length D ac ab)) hs rfl rfl ?_
 clear hs; intro b1 w hs
 refine ow_alloc hs ty99 rfl ?_
 clear hs; intro b3 w hs
 refine oN <| sK ?_
 obtain ⟨B, aL, cG⟩ := bS hm
 replace hm := aL; clear aL
 refine cJ (fun f ds w => ∃ (G : Option Addr) (M : Nat) (a6 : Im), ds = [] ∧ Im.le I a6 ∧ Sat a6 (blk b3 99 [iN 0, iN 0] :: blk b1 56 (cL4 ag af ae ad E e.length D ac ab) :: F) w ∧ f 1 = .slice G B.length M ∧ f 6 = pQ b3 0 ∧ Rs a6 2 G B.length M (B.flatMap enc99)) ?_ ?_
 · refine cQ <| cR <| oF (b := b1) (o := 0) fl56_4 rfl <| ld1 (k := 1) hs rfl rfl ty54 rfl <| oV (x_len sl54 rfl) rfl <| mI rfl <| oN <| sK <| cw_block ?_
   refine cL (S := fun k f ds w => ∃ (s : List (Int × Int)) (d : Int), ∃ (G : Option Addr) (M : Nat) (Z : Im), ds = [] ∧ Im.le I Z ∧ f51_l0 e k s d = some B ∧ Sat Z (blk b3 99 [iN 0, iN 0] :: blk b1 56 (cL4 ag af ae ad E e.length D ac ab) :: F) w ∧ f 1 = .slice G s.length M ∧ f 2 = .func (.func 52) #[] #[] ∧ f 3 = pQ b1 0 ∧ f 6 = pQ b3 0 ∧ f 16 = .slice E e.length D ∧ f 17 = iN (e.length : Int) ∧ f 18 = iN d ∧ Rs Z 2 G s.length M (s.flatMap enc99)) ?_ (k := FUEL) ⟨x1, 0, cT, cS, I, rfl, iR, hm, hs, rfl, rfl, rfl, rfl, rfl, rfl, rfl, c2⟩
   clear hm hs
   rintro k f ds w ⟨s, d, G, M, Z, rfl, aW, hm, hs, ck, cF, cE, cf, b0, bX, aG, C⟩
   rcases k with _ | k
   · unfold f51_l0 at hm; cases hm
   unfold f51_l0 at hm
   refine cQ <| cR <| oV (x_lss aG bX) rfl <| oN <| sQR ?_
   by_cases aQ : d < (e.length : Int)
   · rw [if_pos aQ] at hm
     refine cIt rfl (dT aQ) <| cw_skip <| sK ?_
     obtain ⟨ax, aL, cA⟩ := bS hm
     replace hm := aL; clear aL
     refine cJ (fun f ds w => ∃ (G : Option Addr) (M : Nat) (aV : Im), ds = [] ∧ Im.le Z aV ∧ Sat aV (blk b3 99 [iN 0, iN 0] :: blk b1 56 (cL4 ag af ae ad E e.length D ac ab) :: F) w ∧ f 1 = .slice G ax.length M ∧ f 2 = .func (.func 52) #[] #[] ∧ f 3 = pQ b1 0 ∧ f 6 = pQ b3 0 ∧ f 16 = .slice E e.length D ∧ f 17 = iN (e.length : Int) ∧ f 18 = iN d ∧ Rs aV 2 G ax.length M (ax.flatMap enc99)) ?_ ?_
     · refine cw_block <| cQ <| cR <| mI aG ?_
       have aw := (iS hm).1
       replace hm := (iS hm).2
       replace a9 := a9.mono aW
       refine oI (i := d) sl54 ty59 b0 aG aw.1 aw.2 (SN59.some a9 (by have := aw; omega)) ?_
       obtain ⟨csu12668, hru12668, hnu12668⟩ := (id a9)
       obtain ⟨vsu12668, hvu12668, W, V, O, N, rfl, aT, aS⟩ := NL.at rl59.len hnu12668 aw.1 aw.2
       refine oLR (p := d.toNat * 2) (vs := [.slice W (((at' e d).1).length) V, .slice O (((at' e d).2).length) N]) (v := .agg #[.slice W (((at' e d).1).length) V, .slice O (((at' e d).2).length) N]) hs hru12668 rfl ty59 ((cells_part hvu12668 0 2 (by decide)).trans rfl) rfl rfl <| ow_alloc hs ty59 rfl ?_
       clear hs; intro R w hs
       refine asI rfl <| oS (k := 0) (vs := [.slice W (((at' e d).1).length) V, .slice O (((at' e d).2).length) N]) (cs' := [.slice W (((at' e d).1).length) V, .slice O (((at' e d).2).length) N]) hs rfl rfl rfl ty59 rfl rfl (nLe rfl) rfl rfl ?_
       clear hs; intro w hs
       refine oN <| sQR <| cR <| oF (b := R) (o := 0) fl59_1 rfl <| ld1 (k := 0) hs rfl rfl ty24 rfl <| oV (x_len sl24 rfl) rfl ?_
       have a5 := (iS hm).1
       replace hm := (iS hm).2
       refine ow_makeT (enc := enc99) (z := ((0, 0) : Int × Int)) (i := (((at' e d).2).length : Int)) (j := (((at' e d).2).length : Int)) hs sl101 ty99 el99 rfl rfl rfl rfl a5.1 a5.2.1 a5.2.2 (by decide) ?_
       clear hs; intro T w hs
       refine asS rfl <| oN <| sK ?_
       obtain ⟨az, aL, cz⟩ := bS hm
       replace hm := aL; clear aL
       refine cJ (fun f ds w => ∃ (bs : Im), ds = [] ∧ Im.le Z bs ∧ Sat bs (osl 99 2 T (List.replicate (((at' e d).2).length : Int).toNat ((0, 0) : Int × Int)).length ((((at' e d).2).length : Int).toNat) (az.flatMap enc99) :: blk R 59 [.slice W (((at' e d).1).length) V, .slice O (((at' e d).2).length) N] :: blk b3 99 [iN 0, iN 0] :: blk b1 56 (cL4 ag af ae ad E e.length D ac ab) :: F) w ∧ f 1 = .slice G s.length M ∧ f 2 = .func (.func 52) #[] #[] ∧ f 3 = pQ b1 0 ∧ f 6 = pQ b3 0 ∧ f 9 = .slice T ((List.replicate (((at' e d).2).length : Int).toNat ((0, 0) : Int × Int)).length) ((((at' e d).2).length : Int).toNat) ∧ f 16 = .slice E e.length D ∧ f 17 = iN (e.length : Int) ∧ f 18 = iN d) ?_ ?_
       · refine cQ <| cR <| oF (b := R) (o := 0) fl59_1 rfl <| ld1 (k := 1) hs rfl rfl ty24 rfl <| oV (x_len sl24 rfl) rfl <| mI rfl <| oN <| sK <| cw_block ?_
         refine cL (S := fun k f ds w => ∃ (l : Int) (y : List (Int × Int)), ∃ (aU : Im), ds = [] ∧ Im.le Z aU ∧ f51_l1 e s d k l y = some az ∧ Sat aU (osl 99 2 T (List.replicate (((at' e d).2).length : Int).toNat ((0, 0) : Int × Int)).length ((((at' e d).2).length : Int).toNat) (y.flatMap enc99) :: blk R 59 [.slice W (((at' e d).1).length) V, .slice O (((at' e d).2).length) N] :: blk b3 99 [iN 0, iN 0] :: blk b1 56 (cL4 ag af ae ad E e.length D ac ab) :: F) w ∧ f 1 = .slice G s.length M ∧ f 2 = .func (.func 52) #[] #[] ∧ f 3 = pQ b1 0 ∧ f 6 = pQ b3 0 ∧ f 7 = iN d ∧ f 8 = pQ R 0 ∧ f 9 = .slice T ((List.replicate (((at' e d).2).length : Int).toNat ((0, 0) : Int × Int)).length) ((((at' e d).2).length : Int).toNat) ∧ f 16 = .slice E e.length D ∧ f 17 = iN (e.length : Int) ∧ f 18 = iN d ∧ f 28 = .slice O (((at' e d).2).length) N ∧ f 29 = iN (((at' e d).2).length : Int) ∧ f 30 = iN l) ?_ (k := FUEL) ⟨0, List.replicate (((at' e d).2).length : Int).toNat ((0, 0) : Int × Int), Z, rfl, iR, hm, hs, ck, cF, cE, cf, rfl, rfl, rfl, b0, bX, aG, rfl, rfl, rfl⟩
         clear hm hs
         rintro k f ds w ⟨l, y, aU, rfl, aa, hm, hs, cj, bb, ch, ce, cC, cb, b8, bZ, bW, bU, bP, bN, aC⟩
         rcases k with _ | k
         · unfold f51_l1 at hm; cases hm
         unfold f51_l1 at hm
         refine cQ <| cR <| oV (x_lss aC bN) rfl <| oN <| sQR ?_
         by_cases aP : l < (((at' e d).2).length : Int)
         · rw [if_pos aP] at hm
           refine cIt rfl (dT aP) <| cw_skip <| sK ?_
           obtain ⟨a1, aL, cy⟩ := bS hm
           replace hm := aL; clear aL
           refine cJ (fun f ds w => ∃ (a3 : Im), ds = [] ∧ Im.le aU a3 ∧ Sat a3 (osl 99 2 T (List.replicate (((at' e d).2).length : Int).toNat ((0, 0) : Int × Int)).length ((((at' e d).2).length : Int).toNat) (a1.flatMap enc99) :: blk R 59 [.slice W (((at' e d).1).length) V, .slice O (((at' e d).2).length) N] :: blk b3 99 [iN 0, iN 0] :: blk b1 56 (cL4 ag af ae ad E e.length D ac ab) :: F) w ∧ f 1 = .slice G s.length M ∧ f 2 = .func (.func 52) #[] #[] ∧ f 3 = pQ b1 0 ∧ f 6 = pQ b3 0 ∧ f 7 = iN d ∧ f 8 = pQ R 0 ∧ f 9 = .slice T ((List.replicate (((at' e d).2).length : Int).toNat ((0, 0) : Int × Int)).length) ((((at' e d).2).length : Int).toNat) ∧ f 16 = .slice E e.length D ∧ f 17 = iN (e.length : Int) ∧ f 18 = iN d ∧ f 28 = .slice O (((at' e d).2).length) N ∧ f 29 = iN (((at' e d).2).length : Int) ∧ f 30 = iN l) ?_ ?_
           · refine cw_block <| cQ <| cR <| mI aC ?_
             have av := (iS hm).1
             replace hm := (iS hm).2
             replace aS := aS.mono aa
             refine oI (i := l) sl24 ty3 bP aC av.1 av.2 (Rs.some aS (by have := av; omega)) <| oLR (p := l.toNat * 1) (vs := [iN (at' ((at' e d).2) l)]) (v := iN (at' ((at' e d).2) l)) hs aS rfl ty3 (flat_at (enc := e64) (sz := 1) (fun _ => rfl) ((at' e d).2) l av.1 av.2 0 1 (by decide)) rfl rfl <| asI rfl <| asI rfl <| oN <| sQR <| cR <| oV (xM (v := .func (.func 52) #[] #[]) bb) rfl <| mI rfl ?_
             obtain ⟨X, cw, hm⟩ := bS hm
             refine oC (fi := []) (vs := [iN (at' ((at' e d).2) l)]) (ca := []) rfl ⟨rfl, trivial⟩ en52 (f52_ok _ cw hs) ?_
             clear hs; rintro _ w ⟨bq, ak, hs, rfl⟩
             refine ow_alloc hs ty99 rfl ?_
             clear hs; intro ai w hs
             refine oS (k := 0) (vs := [iN X.1, iN X.2]) (cs' := [iN X.1, iN X.2]) hs rfl rfl rfl ty99 rfl rfl (nLe rfl) rfl rfl ?_
             clear hs; intro w hs
             refine oN <| sK ?_
             obtain ⟨A, aL, cx⟩ := bS hm
             replace hm := aL; clear aL
             refine cJ (fun f ds w => ∃ (a2 : Im), ds = [] ∧ Im.le bq a2 ∧ Sat a2 (blk ai 99 [iN A.1, iN A.2] :: osl 99 2 T (List.replicate (((at' e d).2).length : Int).toNat ((0, 0) : Int × Int)).length ((((at' e d).2).length : Int).toNat) (y.flatMap enc99) :: blk R 59 [.slice W (((at' e d).1).length) V, .slice O (((at' e d).2).length) N] :: blk b3 99 [iN 0, iN 0] :: blk b1 56 (cL4 ag af ae ad E e.length D ac ab) :: F) w ∧ f 1 = .slice G s.length M ∧ f 2 = .func (.func 52) #[] #[] ∧ f 3 = pQ b1 0 ∧ f 6 = pQ b3 0 ∧ f 7 = iN d ∧ f 8 = pQ R 0 ∧ f 9 = .slice T ((List.replicate (((at' e d).2).length : Int).toNat ((0, 0) : Int × Int)).length) ((((at' e d).2).length : Int).toNat) ∧ f 10 = iN l ∧ f 12 = pQ ai 0 ∧ f 16 = .slice E e.length D ∧ f 17 = iN (e.length : Int) ∧ f 18 = iN d ∧ f 28 = .slice O (((at' e d).2).length) N ∧ f 29 = iN (((at' e d).2).length : Int) ∧ f 30 = iN l) ?_ ?_
             · refine cQ <| cR <| oF (b := R) (o := 0) fl59_0 cb <| ld1 (k := 2) hs rfl rfl ty57 rfl <| mI rfl ?_
               have au := (iS hm).1
               replace hm := (iS hm).2
               replace aT := aT.mono (aa.trans ak)
               refine oI (i := l) sl57 ty24 rfl rfl au.1 au.2 (SN24.some aT (by have := au; omega)) ?_
               obtain ⟨csu13765, hru13765, hnu13765⟩ := (id aT)
               obtain ⟨vsu13765, hvu13765, bp, bo, rfl, aR⟩ := NL.at rl24.len hnu13765 au.1 au.2
               refine oLR (p := l.toNat * 1) (vs := [.slice bp ((at' ((at' e d).1) l).length) bo]) (v := .slice bp ((at' ((at' e d).1) l).length) bo) hs hru13765 rfl ty24 ((cells_part hvu13765 0 1 (by decide)).trans rfl) rfl rfl <| oV (x_len sl24 rfl) rfl <| mI rfl <| oN <| sK <| cw_block ?_
               refine cL (S := fun k f ds w => ∃ (q : Int) (x : Int) (u : Int), ∃ (ay : Im), ds = [] ∧ Im.le bq ay ∧ f51_l2 e s d l k q x u = some A ∧ Sat ay (blk ai 99 [iN x, iN u] :: osl 99 2 T (List.replicate (((at' e d).2).length : Int).toNat ((0, 0) : Int × Int)).length ((((at' e d).2).length : Int).toNat) (y.flatMap enc99) :: blk R 59 [.slice W (((at' e d).1).length) V, .slice O (((at' e d).2).length) N] :: blk b3 99 [iN 0, iN 0] :: blk b1 56 (cL4 ag af ae ad E e.length D ac ab) :: F) w ∧ f 1 = .slice G s.length M ∧ f 2 = .func (.func 52) #[] #[] ∧ f 3 = pQ b1 0 ∧ f 6 = pQ b3 0 ∧ f 7 = iN d ∧ f 8 = pQ R 0 ∧ f 9 = .slice T ((List.replicate (((at' e d).2).length : Int).toNat ((0, 0) : Int × Int)).length) ((((at' e d).2).length : Int).toNat) ∧ f 10 = iN l ∧ f 12 = pQ ai 0 ∧ f 16 = .slice E e.length D ∧ f 17 = iN (e.length : Int) ∧ f 18 = iN d ∧ f 28 = .slice O (((at' e d).2).length) N ∧ f 29 = iN (((at' e d).2).length : Int) ∧ f 30 = iN l ∧ f 42 = .slice bp ((at' ((at' e d).1) l).length) bo ∧ f 43 = iN ((at' ((at' e d).1) l).length : Int) ∧ f 44 = iN q) ?_ (k := FUEL) ⟨0, X.1, X.2, bq, rfl, iR, hm, hs, cj, bb, ch, ce, cC, cb, b8, rfl, rfl, bZ, bW, bU, bP, bN, aC, rfl, rfl, rfl⟩
               clear hm hs
               rintro k f ds w ⟨q, x, u, ay, rfl, aj, hm, hs, be, ci, cg, cd, cc, b9, b7, b2, aJ, bY, bV, bT, bO, bM, bI, bD, bC, aA⟩
               rcases k with _ | k
               · unfold f51_l2 at hm; cases hm
               unfold f51_l2 at hm
               refine cQ <| cR <| oV (x_lss aA bC) rfl <| oN <| sQR ?_
               by_cases aO : q < ((at' ((at' e d).1) l).length : Int)
               · rw [if_pos aO] at hm
                 refine cIt rfl (dT aO) <| cw_skip <| sQR <| cw_block <| cQ <| cR <| mI aA ?_
                 have ar := (iS hm).1
                 replace hm := (iS hm).2
                 replace aR := aR.mono aj
                 refine oI (i := q) sl24 ty3 bD aA ar.1 ar.2 (Rs.some aR (by have := ar; omega)) <| oLR (p := q.toNat * 1) (vs := [iN (at' (at' ((at' e d).1) l) q)]) (v := iN (at' (at' ((at' e d).1) l) q)) hs aR rfl ty3 (flat_at (enc := e64) (sz := 1) (fun _ => rfl) (at' ((at' e d).1) l) q ar.1 ar.2 0 1 (by decide)) rfl rfl <| asI rfl <| asI rfl <| oN <| sK ?_
                 have aq := (iS hm).1
                 replace hm := (iS hm).2
                 obtain ⟨K, cv, hm⟩ := bS hm
                 refine cD mixed rfl (fun f0 L f w => ∃ (Iq : Im), Im.le ay Iq ∧ f = frL [(49, 0, .agg #[iN x, iN u]), (50, 1, .iface 99 (.agg #[iN x, iN u])), (51, 2, iN (at' (at' ((at' e d).1) l) q)), (52, 3, .slice G s.length M), (53, 4, iN q), (54, 5, .pointer (some (ea G (q.toNat * 2)))), (55, 6, .agg #[iN ((at' s q).1), iN ((at' s q).2)]), (56, 7, .agg #[iN K.1, iN K.2])] L f0 ∧ Sat Iq (rL [(8, blk ai 99 [iN K.1, iN K.2])] (blk ai 99 [iN x, iN u]) L :: osl 99 2 T (List.replicate (((at' e d).2).length : Int).toNat ((0, 0) : Int × Int)).length ((((at' e d).2).length : Int).toNat) (y.flatMap enc99) :: blk R 59 [.slice W (((at' e d).1).length) V, .slice O (((at' e d).2).length) N] :: blk b3 99 [iN 0, iN 0] :: blk b1 56 (cL4 ag af ae ad E e.length D ac ab) :: F) w ∧ (L 8 = true → L 0 = true)) ⟨ay, iR, (frL_ff _).symm, hs.drew, (fun h => by cases h)⟩ ⟨?_, ?_, ?_, ?_, ?_, ?_, ?_, ?_, ?_, trivial⟩ ?_
                 all_goals clear hs
                 · rintro L f w _ hL ⟨Iq, U, rfl, hs, Q⟩
                   replace hs := hs.eqv (k := 0) rfl ((rL_f (show L 8 = false from pF Q hL) (rL_n)))
                   refine oL (k := 0) (vs := [iN x, iN u]) (v := .agg #[iN x, iN u]) hs rfl aJ ty99 rfl rfl rfl ?_
                   replace hs := hs.eqv (k := 0) rfl (Eq.symm (a := rL [(8, blk ai 99 [iN K.1, iN K.2])] (blk ai 99 [iN x, iN u]) (setL L 0)) (((rL_f (L := setL L 0) (show L 8 = false from pF Q hL) (rL_n)))))
                   exact oN ⟨rfl, rfl, Iq, U, fS rfl rfl, hs, (fun _ => rfl)⟩
                 · rintro L f w ⟨cP, _⟩ hL ⟨Iq, U, rfl, hs, Q⟩
                   refine oV (x_mkiface (t := 99) (v := .agg #[iN x, iN u]) (by kernel_rfl) (fG rfl cP)) rfl ?_
                   exact oN ⟨rfl, rfl, Iq, U, fS rfl rfl, hs, Q⟩
                 · rintro L f w _ hL ⟨Iq, U, rfl, hs, Q⟩
                   refine mI rfl ?_
                   exact oN ⟨rfl, rfl, Iq, U, fS rfl rfl, hs, Q⟩
                 · rintro L f w _ hL ⟨Iq, U, rfl, hs, Q⟩
                   refine mS be ?_
                   exact oN ⟨rfl, rfl, Iq, U, fS rfl rfl, hs, Q⟩
                 · rintro L f w _ hL ⟨Iq, U, rfl, hs, Q⟩
                   refine mI rfl ?_
                   exact oN ⟨rfl, rfl, Iq, U, fS rfl rfl, hs, Q⟩
                 · rintro L f w ⟨cZ, cY, _⟩ hL ⟨Iq, U, rfl, hs, Q⟩
                   replace C := C.mono (((aa.trans ak).trans aj).trans U)
                   refine oI (i := q) sl101 ty99 (fG rfl cZ) (fG rfl cY) aq.1 aq.2 (Rs.some C (by have := aq; omega)) ?_
                   exact oN ⟨rfl, rfl, Iq, U, fS rfl rfl, hs, Q⟩
                 · rintro L f w ⟨cX, _⟩ hL ⟨Iq, U, rfl, hs, Q⟩
                   replace C := C.mono (((aa.trans ak).trans aj).trans U)
                   refine oLR (p := q.toNat * 2) (vs := [iN ((at' s q).1), iN ((at' s q).2)]) (v := .agg #[iN ((at' s q).1), iN ((at' s q).2)]) hs C (fG rfl cX) ty99 (flat_at (enc := enc99) (sz := 2) (fun _ => rfl) s q aq.1 aq.2 0 2 (by decide)) rfl rfl ?_
                   exact oN ⟨rfl, rfl, Iq, U, fS rfl rfl, hs, Q⟩
                 · rintro L f w ⟨c1, c0, cW, _⟩ hL ⟨Iq, U, rfl, hs, Q⟩
                   refine ow_invoke (vs := [iN (at' (at' ((at' e d).1) l) q), .agg #[iN ((at' s q).1), iN ((at' s q).2)]]) (fG rfl c1) ⟨(fG rfl c0), (fG rfl cW), trivial⟩ (fun w => by rfl) en309 (f309_ok _ _ _ _ _ cv hs) ?_
                   clear hs; rintro _ w ⟨cK, ct, hs, rfl⟩
                   exact oN ⟨rfl, rfl, cK, (U.trans ct), fS rfl rfl, hs, Q⟩
                 · rintro L f w ⟨c3, _, cP, c1, c0, cZ, cY, cX, cW, _, _⟩ hL ⟨Iq, U, rfl, hs, Q⟩
                   replace hs := hs.eqv (k := 0) rfl ((rL_f hL (rL_n)))
                   refine oS (k := 0) (vs := [iN K.1, iN K.2]) (cs' := [iN K.1, iN K.2]) hs rfl aJ (fG rfl c3) ty99 rfl rfl (nLe rfl) rfl rfl ?_
                   clear hs; intro w hs
                   exact oN ⟨rfl, rfl, Iq, U, frL_no rfl, hs, (fun _ => cP)⟩
                 rintro L f w hall ⟨cM, cr, rfl, hs, _⟩
                 rw [frL_tt _ rfl hall]
                 replace hs := hs.eqv (k := 0) rfl (rL_t (hall 8 (nLe rfl)))
                 refine blockK_n <| sK <| cR <| oV (x_add aA rfl) rfl <| mI rfl <| oN ?_
                 exact lN ⟨k, Nat.lt_succ_self k, w64 (q + 1), K.1, K.2, cM, rfl, (aj.trans cr), hm, hs, be, ci, cg, cd, cc, b9, b7, b2, aJ, bY, bV, bT, bO, bM, bI, bD, bC, rfl⟩
               rw [if_neg aO] at hm
               refine cIf rfl (dF aO) <| cw_exit <| seqK_x <| loopK_x <| blockK_hit ?_
               obtain rfl := oJ hm
               refine jN ⟨ay, rfl, aj, hs, be, ci, cg, cd, cc, b9, b7, b2, aJ, bY, bV, bT, bO, bM, bI⟩
             clear hm hs
             rintro f ds w ⟨a2, rfl, a8, hs, a0, aZ, am, aY, al, aX, ah, aK, Y, aI, aH, aF, aE, aD, aB⟩
             replace hm := cx
             refine cQ <| cQ <| cR <| mI al <| oF (b := b1) (o := 0) fl56_4 am <| ld1 (k := 4) hs rfl rfl ty54 rfl <| oV (x_len sl54 rfl) rfl <| oV (x_sub rfl rfl) rfl <| oV (x_lss rfl rfl) rfl <| oN <| sK ?_
             by_cases aN : d < (w64 ((e.length : Int) - 1))
             · rw [if_pos aN] at hm
               refine cIt rfl (dT aN) <| cR <| oL (k := 0) (vs := [iN A.1, iN A.2]) (v := .agg #[iN A.1, iN A.2]) hs rfl Y ty99 rfl rfl rfl <| oV (x_mkiface (t := 99) (v := .agg #[iN A.1, iN A.2]) (by kernel_rfl) rfl) rfl ?_
               obtain ⟨H, cu, hm⟩ := bS hm
               refine ow_invoke (vs := []) rfl trivial (fun w => by rfl) en308 (f308_ok _ _ cu hs) ?_
               clear hs; rintro _ w ⟨cI, cq, hs, rfl⟩
               refine oS (k := 0) (vs := [iN H.1, iN H.2]) (cs' := [iN H.1, iN H.2]) hs rfl Y rfl ty99 rfl rfl (nLe rfl) rfl rfl ?_
               clear hs; intro w hs
               refine oN <| sK <| cR <| mS ah <| mI aK <| oL (k := 0) (vs := [iN H.1, iN H.2]) (v := .agg #[iN H.1, iN H.2]) hs rfl Y ty99 rfl rfl rfl ?_
               have ap := (iS hm).1
               replace hm := (iS hm).2
               have cV := osl_n (k := 1) hs rfl (fun _ => rfl) (by decide)
               refine oI (i := l) sl101 ty99 rfl rfl ap.1 (by have := ap; omega) (osl_some hs (k := 1) rfl (by have := ap; omega)) <| ow_storeT (k := 1) (enc := enc99) (xx := (H.1, H.2)) (i := l) (m := (List.replicate (((at' e d).2).length : Int).toNat ((0, 0) : Int × Int)).length) (vs := [iN H.1, iN H.2]) hs rfl rfl rfl ty99 rfl rfl rfl (fun _ => rfl) (by decide) ap.1 ap.2 ?_
               clear hs; intro w hs
               refine oN <| blockK_n ?_
               replace hs := hs.erase 0
               obtain rfl := oJ hm
               refine jN ⟨cI, rfl, ((ak.trans a8).trans cq), hs, a0, aZ, am, aY, al, aX, ah, aI, aH, aF, aE, aD, aB⟩
             rw [if_neg aN] at hm
             refine cIf rfl (dF aN) <| cw_skip <| sK <| cR <| mS ah <| mI aK <| oL (k := 0) (vs := [iN A.1, iN A.2]) (v := .agg #[iN A.1, iN A.2]) hs rfl Y ty99 rfl rfl rfl ?_
             have ao := (iS hm).1
             replace hm := (iS hm).2
             have cU := osl_n (k := 1) hs rfl (fun _ => rfl) (by decide)
             refine oI (i := l) sl101 ty99 rfl rfl ao.1 (by have := ao; omega) (osl_some hs (k := 1) rfl (by have := ao; omega)) <| ow_storeT (k := 1) (enc := enc99) (xx := (A.1, A.2)) (i := l) (m := (List.replicate (((at' e d).2).length : Int).toNat ((0, 0) : Int × Int)).length) (vs := [iN A.1, iN A.2]) hs rfl rfl rfl ty99 rfl rfl rfl (fun _ => rfl) (by decide) ao.1 ao.2 ?_
             clear hs; intro w hs
             refine oN <| blockK_n ?_
             replace hs := hs.erase 0
             obtain rfl := oJ hm
             refine jN ⟨a2, rfl, (ak.trans a8), hs, a0, aZ, am, aY, al, aX, ah, aI, aH, aF, aE, aD, aB⟩
           clear hm hs
           rintro f ds w ⟨a3, rfl, cp, hs, bQ, bJ, bE, bz, bx, bw, bu, bl, bi, bf, bd, bc, ba⟩
           replace hm := cy
           refine cR <| oV (x_add ba rfl) rfl <| mI rfl <| oN ?_
           exact lN ⟨k, Nat.lt_succ_self k, w64 (l + 1), a1, a3, rfl, (aa.trans cp), hm, hs, bQ, bJ, bE, bz, bx, bw, bu, bl, bi, bf, bd, bc, rfl⟩
         rw [if_neg aP] at hm
         refine cIf rfl (dF aP) <| cw_exit <| seqK_x <| loopK_x <| blockK_hit ?_
         obtain rfl := oJ hm
         refine jN ⟨aU, rfl, aa, hs, cj, bb, ch, ce, b8, bZ, bW, bU⟩
       clear hm hs
       rintro f ds w ⟨bs, rfl, co, hs, cN, bK, bG, bA, bv, bm, bj, bg⟩
       replace hm := cz
       have b4 := osl_n (k := 0) hs rfl (fun _ => rfl) (by decide)
       replace hs := hs.eqv (k := 0) rfl (by rw [b4])
       obtain ⟨cH, cn, cB, hs⟩ := hs.freezeO
       refine cR <| mS (slen (oa := T) (m := (List.replicate (((at' e d).2).length : Int).toNat ((0, 0) : Int × Int)).length) (m' := az.length) (c := (((at' e d).2).length : Int).toNat) bv b4) <| asS rfl <| oN <| blockK_n ?_
       replace hs := hs.erase 0
       obtain rfl := oJ hm
       refine jN ⟨T, (((at' e d).2).length : Int).toNat, cH, rfl, (co.trans cn), hs, rfl, bK, bG, bA, bm, bj, bg, cB⟩
     clear hm hs
     rintro f ds w ⟨G, M, aV, rfl, cm, hs, bR, bL, bH, bB, bn, bk, bh, a7⟩
     replace hm := cA
     refine cR <| oV (x_add bh rfl) rfl <| mI rfl <| oN ?_
     exact lN ⟨k, Nat.lt_succ_self k, ax, w64 (d + 1), G, M, aV, rfl, (aW.trans cm), hm, hs, bR, bL, bH, bB, bn, bk, rfl, a7⟩
   rw [if_neg aQ] at hm
   refine cIf rfl (dF aQ) <| cw_exit <| seqK_x <| loopK_x <| blockK_hit ?_
   obtain rfl := oJ hm
   refine jN ⟨G, M, Z, rfl, aW, hs, ck, cf, C⟩
 clear hm hs
 rintro f ds w ⟨G, M, a6, rfl, cl, hs, b6, a4, aM⟩
 replace hm := cG
 refine cQ <| cR <| mS b6 ?_
 have an := (iS hm).1
 replace hm := (iS hm).2
 refine oI (i := (0 : Int)) sl101 ty99 rfl rfl an.1 an.2 (Rs.some aM (by have := an; omega)) <| oLR (p := (0 : Int).toNat * 2) (vs := [iN ((at' B (0 : Int)).1), iN ((at' B (0 : Int)).2)]) (v := .agg #[iN ((at' B (0 : Int)).1), iN ((at' B (0 : Int)).2)]) hs aM rfl ty99 (flat_at (enc := enc99) (sz := 2) (fun _ => rfl) B (0 : Int) an.1 an.2 0 2 (by decide)) rfl rfl <| oS (k := 0) (vs := [iN ((at' B (0 : Int)).1), iN ((at' B (0 : Int)).2)]) (cs' := [iN ((at' B (0 : Int)).1), iN ((at' B (0 : Int)).2)]) hs rfl a4 rfl ty99 rfl rfl (nLe rfl) rfl rfl ?_
 clear hs; intro w hs
 refine oN <| sK <| cw_ret <| rK (rs := [.cell 6 99]) (vs := [.agg #[iN ((at' B (0 : Int)).1), iN ((at' B (0 : Int)).2)]]) (.inr rfl) rfl ⟨⟨_, true, _, [iN ((at' B (0 : Int)).1), iN ((at' B (0 : Int)).2)], a4, ty99, CA_blk (off := 0) (m := 2) (hs.blk (k := 0) rfl), rfl, rfl⟩, trivial⟩ ?_
 obtain rfl := oJ hm
 replace hs := hs.erase 0
 replace hs := hs.erase 0
 exact ⟨a6, cl, hs, rfl⟩
def f27_l0 (e : List (Int × Int)) : Nat → Int → Int → Option Int
  | 0, _, _ => none
  | k + 1, c, a => (if c < (e.length : Int) then (if 0 ≤ c ∧ c < (e.length : Int) then (if 0 ≤ a ∧ a < (e.length : Int) then (if 0 ≤ a ∧ a < (e.length : Int) then (if (w64 (((at' e a).2) - ((at' e a).1))) < (w64 (((at' e c).2) - ((at' e c).1))) then (f27_l0 e k (w64 (c + 1)) c) else (f27_l0 e k (w64 (c + 1)) a)) else none) else none) else none) else some a)
def f27_m (x : Int) (u : Int) (t : Int) (s : Int) (l : List (List (List Int) × List Int)) (q : Int) (m : Int) (e : List (Int × Int)) (x2 : Int) : Option Int :=
  ((f51_m x u t s l q m e).bind fun r7 => ((f25_m x u t s l q m r7.1 r7.2).bind fun V => ((f27_l0 e FUEL 0 0).bind fun (z : Int) => (if 0 ≤ z ∧ z < (e.length : Int) then ((if ¬ (V = 3) then some true else some (decide (x2 = 0))).bind fun aB => ((if aB = true then some true else some (decide (((at' e z).1) = ((at' e z).2)))).bind fun aA => (if aA = true then some V else none))) else none))))
theorem f27_ok (x : Int) (u : Int) (t : Int) (s : Int) (l : List (List (List Int) × List Int)) (q : Int) (m : Int) (e : List (Int × Int)) (x2 : Int) {r : Int} (hm : f27_m x u t s l q m e x2 = some r) {j : Option Addr} {h : Nat} {C : Option Addr} {M : Nat} {I : Im} {F : List HP} {w : World} (hs : Sat I (F) w) (T : SN59 I j l.length h l) (B : Rs I 2 C e.length M (e.flatMap enc99)) :
    CV P 27 [.agg (cL4 x u t s j l.length h q m).toArray, .slice C e.length M, iN x2] w fun v w' => ∃ (J : Im), Im.le I J ∧ Sat J (F) w' ∧ v = .int .u8 r := by
 unfold f27_m at hm
 refine cv_of (n := 88) Proofs.Tryz.func27 rfl rfl (nLe rfl) <| cQ <| cR <| oB (v := .agg (cL4 x u t s j l.length h q m).toArray) (cs := (cL4 x u t s j l.length h q m)) hs rfl rfl ?_
 clear hs; intro b1 w hs
 refine oB (v := .slice C e.length M) (cs := [.slice C e.length M]) hs rfl rfl ?_
 clear hs; intro b3 w hs
 refine oB (v := iN x2) (cs := [iN x2]) hs rfl rfl ?_
 clear hs; intro b5 w hs
 refine asI rfl <| oN <| sQR ?_
 obtain ⟨r7, bh, hm⟩ := bS hm
 obtain ⟨V, a3, hm⟩ := bS hm
 refine cD mixed rfl (fun f0 L f w => ∃ (A : Im), Im.le I A ∧ f = frL [(14, 0, .agg (cL4 x u t s j l.length h q m).toArray), (15, 1, .agg (cL4 x u t s j l.length h q m).toArray), (16, 2, .slice C e.length M), (17, 3, .agg #[iN r7.1, iN r7.2]), (18, 4, .int .u8 V), (7, 5, .int .u8 V)] L f0 ∧ Sat A (blk b5 3 [iN x2] :: blk b3 101 [.slice C e.length M] :: blk b1 56 (cL4 x u t s j l.length h q m) :: F) w) ⟨I, iR, (frL_ff _).symm, hs.drew⟩ ⟨?_, ?_, ?_, ?_, ?_, ?_, trivial⟩ ?_
 all_goals clear hs
 · rintro L f w _ hL ⟨A, d, rfl, hs⟩
   refine oL (k := 2) (vs := (cL4 x u t s j l.length h q m)) (v := .agg (cL4 x u t s j l.length h q m).toArray) hs rfl rfl ty56 rfl rfl rfl ?_
   exact oN ⟨rfl, rfl, A, d, fS rfl rfl, hs⟩
 · rintro L f w _ hL ⟨A, d, rfl, hs⟩
   refine oL (k := 2) (vs := (cL4 x u t s j l.length h q m)) (v := .agg (cL4 x u t s j l.length h q m).toArray) hs rfl rfl ty56 rfl rfl rfl ?_
   exact oN ⟨rfl, rfl, A, d, fS rfl rfl, hs⟩
 · rintro L f w _ hL ⟨A, d, rfl, hs⟩
   refine ld1 (k := 1) hs rfl rfl ty101 rfl ?_
   exact oN ⟨rfl, rfl, A, d, fS rfl rfl, hs⟩
 · rintro L f w ⟨aV, aU, _⟩ hL ⟨A, d, rfl, hs⟩
   replace T := T.mono d; replace B := B.mono d
   refine oC (fi := []) (vs := [.agg (cL4 x u t s j l.length h q m).toArray, .slice C e.length M, .func (.func 52) #[] #[]]) (ca := []) rfl ⟨(fG rfl aV), (fG rfl aU), rfl, trivial⟩ en51 (f51_ok _ _ _ _ _ _ _ _ bh hs T B) ?_
   clear hs; rintro _ w ⟨J9, aZ, hs, rfl⟩
   exact oN ⟨rfl, rfl, J9, (d.trans aZ), fS rfl rfl, hs⟩
 · rintro L f w ⟨aW, aT, _, _⟩ hL ⟨A, d, rfl, hs⟩
   replace T := T.mono d
   refine oC (fi := []) (vs := [.agg (cL4 x u t s j l.length h q m).toArray, .agg #[iN r7.1, iN r7.2]]) (ca := []) rfl ⟨(fG rfl aW), (fG rfl aT), trivial⟩ en25 (f25_ok _ _ _ _ _ _ _ _ _ a3 hs T) ?_
   clear hs; rintro _ w ⟨br, aY, hs, rfl⟩
   exact oN ⟨rfl, rfl, br, (d.trans aY), fS rfl rfl, hs⟩
 · rintro L f w ⟨a0, _, aW, aV, aU, aT, _, _⟩ hL ⟨A, d, rfl, hs⟩
   refine asI (fG rfl a0) ?_
   exact oN ⟨rfl, rfl, A, d, fS rfl rfl, hs⟩
 rintro L f w hall ⟨a1, ax, rfl, hs⟩
 rw [frL_tt _ rfl hall]
 refine sQR <| cR <| ow_alloc hs ty3 rfl ?_
 clear hs; intro U w hs
 refine oS (k := 0) (vs := [iN 0]) (cs' := [iN 0]) hs rfl rfl rfl ty3 rfl rfl (nLe rfl) rfl rfl ?_
 clear hs; intro w hs
 refine oN <| sK ?_
 obtain ⟨z, a5, a4⟩ := bS hm
 replace hm := a5; clear a5
 refine cJ (fun f ds w => ∃ (aN : Im), ds = [] ∧ Im.le a1 aN ∧ Sat aN (blk U 3 [iN z] :: blk b5 3 [iN x2] :: blk b3 101 [.slice C e.length M] :: blk b1 56 (cL4 x u t s j l.length h q m) :: F) w ∧ f 3 = pQ b1 0 ∧ f 4 = pQ b3 0 ∧ f 5 = pQ b5 0 ∧ f 6 = .int .u8 0 ∧ f 7 = .int .u8 V ∧ f 8 = pQ U 0) ?_ ?_
 · refine cQ <| cR <| ld1 (k := 2) hs rfl rfl ty101 rfl <| oV (x_len sl101 rfl) rfl <| mI rfl <| oN <| sK <| cw_block ?_
   refine cL (S := fun k f ds w => ∃ (c : Int) (a : Int), ∃ (aM : Im), ds = [] ∧ Im.le a1 aM ∧ f27_l0 e k c a = some z ∧ Sat aM (blk U 3 [iN a] :: blk b5 3 [iN x2] :: blk b3 101 [.slice C e.length M] :: blk b1 56 (cL4 x u t s j l.length h q m) :: F) w ∧ f 3 = pQ b1 0 ∧ f 4 = pQ b3 0 ∧ f 5 = pQ b5 0 ∧ f 6 = .int .u8 0 ∧ f 7 = .int .u8 V ∧ f 8 = pQ U 0 ∧ f 19 = .slice C e.length M ∧ f 20 = iN (e.length : Int) ∧ f 21 = iN c) ?_ (k := FUEL) ⟨0, 0, a1, rfl, iR, hm, hs, rfl, rfl, rfl, rfl, rfl, rfl, rfl, rfl, rfl⟩
   clear hm hs
   rintro k f ds w ⟨c, a, aM, rfl, an, hm, hs, am, N, al, ak, aj, H, ab, aa, E⟩
   rcases k with _ | k
   · unfold f27_l0 at hm; cases hm
   unfold f27_l0 at hm
   refine cQ <| cR <| oV (x_lss E aa) rfl <| oN <| sQR ?_
   by_cases az : c < (e.length : Int)
   · rw [if_pos az] at hm
     refine cIt rfl (dT az) <| cw_skip <| sQR <| cw_block <| cQ <| cR <| mI E ?_
     have aw := (iS hm).1
     replace hm := (iS hm).2
     replace B := B.mono (ax.trans an)
     refine oI (i := c) sl101 ty99 ab E aw.1 aw.2 (Rs.some B (by have := aw; omega)) <| oLR (p := c.toNat * 2) (vs := [iN ((at' e c).1), iN ((at' e c).2)]) (v := .agg #[iN ((at' e c).1), iN ((at' e c).2)]) hs B rfl ty99 (flat_at (enc := enc99) (sz := 2) (fun _ => rfl) e c aw.1 aw.2 0 2 (by decide)) rfl rfl <| ow_alloc hs ty99 rfl ?_
     clear hs; intro aQ w hs
     refine asI rfl <| oS (k := 0) (vs := [iN ((at' e c).1), iN ((at' e c).2)]) (cs' := [iN ((at' e c).1), iN ((at' e c).2)]) hs rfl rfl rfl ty99 rfl rfl (nLe rfl) rfl rfl ?_
     clear hs; intro w hs
     refine oN <| sQR ?_
     have av := (iS hm).1
     replace hm := (iS hm).2
     have au := (iS hm).1
     replace hm := (iS hm).2
     refine cD mixed rfl (fun f0 L f w => ∃ (A : Im), Im.le aM A ∧ f = frL [(26, 0, pQ aQ 1), (27, 1, iN ((at' e c).2)), (28, 2, pQ aQ 0), (29, 3, iN ((at' e c).1)), (30, 4, iN (w64 (((at' e c).2) - ((at' e c).1)))), (31, 5, .slice C e.length M), (32, 6, iN a), (33, 7, .pointer (some (ea C (a.toNat * 2)))), (34, 8, .pointer (some (ea C (a.toNat * 2 + 1)))), (35, 9, iN ((at' e a).2)), (36, 10, .slice C e.length M), (37, 11, iN a), (38, 12, .pointer (some (ea C (a.toNat * 2)))), (39, 13, .pointer (some (ea C (a.toNat * 2)))), (40, 14, iN ((at' e a).1)), (41, 15, iN (w64 (((at' e a).2) - ((at' e a).1)))), (42, 16, .bool (decide ((w64 (((at' e a).2) - ((at' e a).1))) < (w64 (((at' e c).2) - ((at' e c).1))))))] L f0 ∧ Sat A (blk aQ 99 [iN ((at' e c).1), iN ((at' e c).2)] :: blk U 3 [iN a] :: blk b5 3 [iN x2] :: blk b3 101 [.slice C e.length M] :: blk b1 56 (cL4 x u t s j l.length h q m) :: F) w) ⟨aM, iR, (frL_ff _).symm, hs.drew⟩ ⟨?_, ?_, ?_, ?_, ?_, ?_, ?_, ?_, ?_, ?_, ?_, ?_, ?_, ?_, ?_, ?_, ?_, trivial⟩ ?_
     all_goals clear hs
     · rintro L f w _ hL ⟨A, d, rfl, hs⟩
       refine ow_indexA (b := aQ) (o := 0) (i := 1) ar99 ty3 rfl rfl (by decide) (by decide) ?_
       exact oN ⟨rfl, rfl, A, d, fS rfl rfl, hs⟩
     · rintro L f w ⟨aW, _⟩ hL ⟨A, d, rfl, hs⟩
       refine ld1 (k := 0) hs rfl (fG rfl aW) ty3 rfl ?_
       exact oN ⟨rfl, rfl, A, d, fS rfl rfl, hs⟩
     · rintro L f w _ hL ⟨A, d, rfl, hs⟩
       refine ow_indexA (b := aQ) (o := 0) (i := 0) ar99 ty3 rfl rfl (by decide) (by decide) ?_
       exact oN ⟨rfl, rfl, A, d, fS rfl rfl, hs⟩
     · rintro L f w ⟨aU, _⟩ hL ⟨A, d, rfl, hs⟩
       refine ld1 (k := 0) hs rfl (fG rfl aU) ty3 rfl ?_
       exact oN ⟨rfl, rfl, A, d, fS rfl rfl, hs⟩
     · rintro L f w ⟨aV, aT, _⟩ hL ⟨A, d, rfl, hs⟩
       refine oV (x_sub (fG rfl aV) (fG rfl aT)) rfl ?_
       exact oN ⟨rfl, rfl, A, d, fS rfl rfl, hs⟩
     · rintro L f w _ hL ⟨A, d, rfl, hs⟩
       refine ld1 (k := 3) hs rfl N ty101 rfl ?_
       exact oN ⟨rfl, rfl, A, d, fS rfl rfl, hs⟩
     · rintro L f w _ hL ⟨A, d, rfl, hs⟩
       refine ld1 (k := 1) hs rfl H ty3 rfl ?_
       exact oN ⟨rfl, rfl, A, d, fS rfl rfl, hs⟩
     · rintro L f w ⟨bm, bl, _⟩ hL ⟨A, d, rfl, hs⟩
       replace B := B.mono d
       refine oI (i := a) sl101 ty99 (fG rfl bm) (fG rfl bl) av.1 av.2 (Rs.some B (by have := av; omega)) ?_
       exact oN ⟨rfl, rfl, A, d, fS rfl rfl, hs⟩
     · rintro L f w ⟨bk, _⟩ hL ⟨A, d, rfl, hs⟩
       refine ow_indexAE (p := a.toNat * 2) (oa := C) (i := 1) ar99 ty3 (fG rfl bk) rfl (by decide) (by decide) ?_
       exact oN ⟨rfl, rfl, A, d, fS rfl rfl, hs⟩
     · rintro L f w ⟨bj, _⟩ hL ⟨A, d, rfl, hs⟩
       replace B := B.mono d
       refine oLR (p := a.toNat * 2 + 1) (vs := [iN ((at' e a).2)]) (v := iN ((at' e a).2)) hs B (fG rfl bj) ty3 (flat_at (enc := enc99) (sz := 2) (fun _ => rfl) e a av.1 av.2 1 1 (by decide)) rfl rfl ?_
       exact oN ⟨rfl, rfl, A, d, fS rfl rfl, hs⟩
     · rintro L f w _ hL ⟨A, d, rfl, hs⟩
       refine ld1 (k := 3) hs rfl N ty101 rfl ?_
       exact oN ⟨rfl, rfl, A, d, fS rfl rfl, hs⟩
     · rintro L f w _ hL ⟨A, d, rfl, hs⟩
       refine ld1 (k := 1) hs rfl H ty3 rfl ?_
       exact oN ⟨rfl, rfl, A, d, fS rfl rfl, hs⟩
     · rintro L f w ⟨bb, ba, _⟩ hL ⟨A, d, rfl, hs⟩
       replace B := B.mono d
       refine oI (i := a) sl101 ty99 (fG rfl bb) (fG rfl ba) au.1 au.2 (Rs.some B (by have := au; omega)) ?_
       exact oN ⟨rfl, rfl, A, d, fS rfl rfl, hs⟩
     · rintro L f w ⟨a9, _⟩ hL ⟨A, d, rfl, hs⟩
       refine ow_indexAE (p := a.toNat * 2) (oa := C) (i := 0) ar99 ty3 (fG rfl a9) rfl (by decide) (by decide) ?_
       exact oN ⟨rfl, rfl, A, d, fS rfl rfl, hs⟩
     · rintro L f w ⟨a8, _⟩ hL ⟨A, d, rfl, hs⟩
       replace B := B.mono d
       refine oLR (p := a.toNat * 2) (vs := [iN ((at' e a).1)]) (v := iN ((at' e a).1)) hs B (fG rfl a8) ty3 (flat_at (enc := enc99) (sz := 2) (fun _ => rfl) e a au.1 au.2 0 1 (by decide)) rfl rfl ?_
       exact oN ⟨rfl, rfl, A, d, fS rfl rfl, hs⟩
     · rintro L f w ⟨bi, a7, _⟩ hL ⟨A, d, rfl, hs⟩
       refine oV (x_sub (fG rfl bi) (fG rfl a7)) rfl ?_
       exact oN ⟨rfl, rfl, A, d, fS rfl rfl, hs⟩
     · rintro L f w ⟨a0, a6, _⟩ hL ⟨A, d, rfl, hs⟩
       refine oV (x_gtr (fG rfl a0) (fG rfl a6)) rfl ?_
       exact oN ⟨rfl, rfl, A, d, fS rfl rfl, hs⟩
     rintro L f w hall ⟨bc, aP, rfl, hs⟩
     rw [frL_tt _ rfl hall]
     refine sK ?_
     by_cases ay : (w64 (((at' e a).2) - ((at' e a).1))) < (w64 (((at' e c).2) - ((at' e c).1)))
     · rw [if_pos ay] at hm
       refine cIt rfl (dT ay) <| cR <| mI rfl <| oS (k := 1) (vs := [iN c]) (cs' := [iN c]) hs rfl H rfl ty3 rfl rfl (nLe rfl) rfl rfl ?_
       clear hs; intro w hs
       refine oN <| blockK_n <| sK <| cR <| oV (x_add E rfl) rfl <| mI rfl <| oN ?_
       replace hs := hs.erase 0
       exact lN ⟨k, Nat.lt_succ_self k, w64 (c + 1), c, bc, rfl, (an.trans aP), hm, hs, am, N, al, ak, aj, H, ab, aa, rfl⟩
     rw [if_neg ay] at hm
     refine cIf rfl (dF ay) <| cw_skip <| blockK_n <| sK <| cR <| oV (x_add E rfl) rfl <| mI rfl <| oN ?_
     replace hs := hs.erase 0
     exact lN ⟨k, Nat.lt_succ_self k, w64 (c + 1), a, bc, rfl, (an.trans aP), hm, hs, am, N, al, ak, aj, H, ab, aa, rfl⟩
   rw [if_neg az] at hm
   refine cIf rfl (dF az) <| cw_exit <| seqK_x <| loopK_x <| blockK_hit ?_
   obtain rfl := oJ hm
   refine jN ⟨aM, rfl, an, hs, am, N, al, ak, aj, H⟩
 clear hm hs
 rintro f ds w ⟨aN, rfl, aO, hs, aq, Z, Y, ap, X, W⟩
 replace hm := a4
 refine cQ <| cR <| ld1 (k := 2) hs rfl Z ty101 rfl <| ld1 (k := 0) hs rfl W ty3 rfl ?_
 have ar := (iS hm).1
 replace hm := (iS hm).2
 replace B := B.mono (ax.trans aO)
 refine oI (i := z) sl101 ty99 rfl rfl ar.1 ar.2 (Rs.some B (by have := ar; omega)) <| oLR (p := z.toNat * 2) (vs := [iN ((at' e z).1), iN ((at' e z).2)]) (v := .agg #[iN ((at' e z).1), iN ((at' e z).2)]) hs B rfl ty99 (flat_at (enc := enc99) (sz := 2) (fun _ => rfl) e z ar.1 ar.2 0 2 (by decide)) rfl rfl <| ow_alloc hs ty99 rfl ?_
 clear hs; intro R w hs
 refine oS (k := 0) (vs := [iN ((at' e z).1), iN ((at' e z).2)]) (cs' := [iN ((at' e z).1), iN ((at' e z).2)]) hs rfl rfl rfl ty99 rfl rfl (nLe rfl) rfl rfl ?_
 clear hs; intro w hs
 refine oN <| sQR <| cQ <| cR <| mI X <| oV (x_neqD rfl rfl) rfl <| mB rfl ?_
 obtain ⟨aB, Q, hm⟩ := bS hm
 refine oJN 3 (fun f ds w => ∃ (ai : Im), ds = [] ∧ Im.le aN ai ∧ Sat ai (blk R 99 [iN ((at' e z).1), iN ((at' e z).2)] :: blk U 3 [iN z] :: blk b5 3 [iN x2] :: blk b3 101 [.slice C e.length M] :: blk b1 56 (cL4 x u t s j l.length h q m) :: F) w ∧ f 54 = .bool aB ∧ f 3 = pQ b1 0 ∧ f 4 = pQ b3 0 ∧ f 5 = pQ b5 0 ∧ f 6 = .int .u8 0 ∧ f 7 = .int .u8 V ∧ f 8 = pQ U 0 ∧ f 11 = pQ R 0) ?_ ?_
 · by_cases G : ¬ (V = 3)
   · rw [if_pos G] at Q
     refine oO (b := true) (yO rfl rfl (dT G)) rfl <| oO (b := true) (yO rfl rfl (dT G)) rfl <| oV (xPt (v := .bool true) ((rfl : ev _ _ _ = _).trans (congrArg Value.bool (dT G))) rfl) rfl <| oN ?_
     obtain rfl := oJ Q
     exact ⟨aN, rfl, iR, hs, rfl, aq, Z, Y, ap, X, W, rfl⟩
   rw [if_neg G] at Q
   refine oG (yO rfl rfl (dF G)) <| ld1 (k := 2) hs rfl Y ty3 rfl <| oG (yO rfl rfl (dF G)) <| oV (x_eql rfl rfl) rfl <| oV (xPf (v := .bool (decide (x2 = 0))) ((rfl : ev _ _ _ = _).trans (congrArg Value.bool (dF G))) rfl) rfl <| oN ?_
   obtain rfl := oJ Q
   exact ⟨aN, rfl, iR, hs, rfl, aq, Z, Y, ap, X, W, rfl⟩
 clear Q hs
 rintro f ds w ⟨ai, rfl, aS, hs, htbb102, ah, ag, af, ae, ad, ac, D⟩
 refine mB htbb102 ?_
 obtain ⟨aA, O, hm⟩ := bS hm
 refine oJN 6 (fun f ds w => ∃ (aC : Im), ds = [] ∧ Im.le ai aC ∧ Sat aC (blk R 99 [iN ((at' e z).1), iN ((at' e z).2)] :: blk U 3 [iN z] :: blk b5 3 [iN x2] :: blk b3 101 [.slice C e.length M] :: blk b1 56 (cL4 x u t s j l.length h q m) :: F) w ∧ f 61 = .bool aA ∧ f 3 = pQ b1 0 ∧ f 4 = pQ b3 0 ∧ f 5 = pQ b5 0 ∧ f 6 = .int .u8 0 ∧ f 7 = .int .u8 V ∧ f 8 = pQ U 0 ∧ f 11 = pQ R 0) ?_ ?_
 · by_cases y : aB = true
   · rw [if_pos y] at O
     refine oO (b := true) (yO rfl rfl y) rfl <| oO (b := true) (yO rfl rfl y) rfl <| oO (b := true) (yO rfl rfl y) rfl <| oO (b := true) (yO rfl rfl y) rfl <| oO (b := true) (yO rfl rfl y) rfl <| oV (xPt (v := .bool true) ((rfl : ev _ _ _ = _).trans (congrArg Value.bool y)) rfl) rfl <| oN ?_
     obtain rfl := oJ O
     exact ⟨ai, rfl, iR, hs, rfl, ah, ag, af, ae, ad, ac, D⟩
   rw [if_neg y] at O
   refine oG (yO rfl rfl (bF y)) <| ow_indexA (b := R) (o := 0) (i := 0) ar99 ty3 D rfl (by decide) (by decide) <| oG (yO rfl rfl (bF y)) <| ld1 (k := 0) hs rfl rfl ty3 rfl <| oG (yO rfl rfl (bF y)) <| ow_indexA (b := R) (o := 0) (i := 1) ar99 ty3 D rfl (by decide) (by decide) <| oG (yO rfl rfl (bF y)) <| ld1 (k := 0) hs rfl rfl ty3 rfl <| oG (yO rfl rfl (bF y)) <| oV (x_eql rfl rfl) rfl <| oV (xPf (v := .bool (decide (((at' e z).1) = ((at' e z).2)))) ((rfl : ev _ _ _ = _).trans (congrArg Value.bool (bF y))) rfl) rfl <| oN ?_
   obtain rfl := oJ O
   exact ⟨ai, rfl, iR, hs, rfl, ah, ag, af, ae, ad, ac, D⟩
 clear O hs
 rintro f ds w ⟨aC, rfl, aR, hs, htbb106, aI, aH, aG, a2, aF, aE, K⟩
 refine oN <| sK ?_
 by_cases ao : aA = true
 · rw [if_pos ao] at hm
   refine cIt htbb106 ao <| cQ <| cR <| mI aF <| asI rfl <| oN <| sK <| cw_ret <| seqK_r <| rK (rs := [.tmp 6]) (vs := [.int .u8 V]) (.inr rfl) rfl ⟨rfl, trivial⟩ ?_
   obtain rfl := oJ hm
   replace hs := hs.erase 0
   replace hs := hs.erase 0
   replace hs := hs.erase 0
   replace hs := hs.erase 0
   replace hs := hs.erase 0
   exact ⟨aC, (((ax.trans aO).trans aS).trans aR), hs, rfl⟩
 rw [if_neg ao] at hm
 refine cIf htbb106 (bF ao) <| cw_skip <| sQR <| cR <| ow_indexA (b := R) (o := 0) (i := 0) ar99 ty3 K rfl (by decide) (by decide) <| ld1 (k := 0) hs rfl rfl ty3 rfl <| ow_indexA (b := R) (o := 0) (i := 1) ar99 ty3 K rfl (by decide) (by decide) <| ld1 (k := 0) hs rfl rfl ty3 rfl <| oV (x_add rfl rfl) rfl <| oV (x_quo rfl rfl (by decide)) rfl <| asI rfl ?_
 refine oN <| sQR <| cR ?_
 replace hs := hs.front (k := 3) rfl
 obtain ⟨bv, bg, bq, hs⟩ := hs.freezeB
 replace hs := hs.front (k := 1) rfl
 obtain ⟨bu, bf, bp, hs⟩ := hs.freezeB
 replace hs := hs.front (k := 2) rfl
 obtain ⟨bt, be, bo, hs⟩ := hs.freezeB
 replace hs := hs.front (k := 1) rfl
 obtain ⟨bs, bd, bn, hs⟩ := hs.freezeB
 refine oV (x_funcL (vf := []) (vc := [pQ b3 0, pQ U 0, pQ b1 0, pQ b5 0]) trivial ⟨aH, aE, aI, aG, trivial⟩) rfl <| oV (xA (v := .func (.func 53) #[] #[pQ b3 0, pQ U 0, pQ b1 0, pQ b5 0]) rfl) rfl <| oN <| sQR <| cQ <| cR <| oV (xM (v := .func (.func 53) #[] #[pQ b3 0, pQ U 0, pQ b1 0, pQ b5 0]) rfl) rfl <| ow_indexA (b := R) (o := 0) (i := 0) ar99 ty3 K rfl (by decide) (by decide) <| ld1 (k := 0) hs rfl rfl ty3 rfl <| mI rfl ?_
 cases hm
def f24_m (a : Int) : Option Int :=
  some a
theorem f24_ok (a : Int) {r : Int} (hm : f24_m a = some r)  {I : Im} {F : List HP} {w : World} (hs : Sat I (F) w)  :
    CV P 24 [iN a] w fun v w' => ∃ (J : Im), Im.le I J ∧ Sat J (F) w' ∧ v = iN r := by
 unfold f24_m at hm
 refine cv_of (n := 4) Proofs.Tryz.func24 rfl rfl (nLe rfl) <| cQ <| cR <| asI rfl <| oN <| sQR <| cR <| mI rfl <| asI rfl <| oN <| sK ?_
 refine cw_ret <| rK (rs := [.tmp 2]) (vs := [iN a]) (.inr rfl) rfl ⟨rfl, trivial⟩ ?_
 obtain rfl := oJ hm
 exact ⟨I, iR, hs, rfl⟩
def f307_m (c : Int) (b : Int) (a : Int) : Option Int :=
  some (w64 (c + (w64 (b * a))))
theorem f307_ok (c : Int) (b : Int) (a : Int) {r : Int} (hm : f307_m c b a = some r)  {I : Im} {F : List HP} {w : World} (hs : Sat I (F) w)  :
    CV P 307 (cL1 c b a) w fun v w' => ∃ (J : Im), Im.le I J ∧ Sat J (F) w' ∧ v = iN r := by
 unfold f307_m at hm
 refine cv_of (n := 12) Proofs.Tryz.func307 rfl rfl (nLe rfl) <| cQ <| cR <| asI rfl <| oN <| sQR <| cR <| mI rfl <| mI rfl <| mI rfl <| oV (x_mul rfl rfl) rfl ?_
 refine oV (x_add rfl rfl) rfl <| asI rfl <| oN <| sK <| cw_ret <| rK (rs := [.tmp 6]) (vs := [iN (w64 (c + (w64 (b * a))))]) (.inr rfl) rfl ⟨rfl, trivial⟩ ?_
 obtain rfl := oJ hm
 exact ⟨I, iR, hs, rfl⟩
def f306_m (c : Int) : Option Int :=
  some (max c 0)
theorem f306_ok (c : Int) {r : Int} (hm : f306_m c = some r)  {I : Im} {F : List HP} {w : World} (hs : Sat I (F) w)  :
    CV P 306 [iN c] w fun v w' => ∃ (J : Im), Im.le I J ∧ Sat J (F) w' ∧ v = iN r := by
 unfold f306_m at hm
 refine cv_of (n := 5) Proofs.Tryz.func306 rfl rfl (nLe rfl) <| cQ <| cR <| asI rfl <| oN <| sQR <| cR <| mI rfl <| oV (x_max2 (k := .i64) (a := c) (b := 0) rfl rfl) rfl <| asI rfl <| oN ?_
 refine sK <| cw_ret <| rK (rs := [.tmp 2]) (vs := [iN (max c 0)]) (.inr rfl) rfl ⟨rfl, trivial⟩ ?_
 obtain rfl := oJ hm
 exact ⟨I, iR, hs, rfl⟩
def f23_l2 (d : List (List (List Int) × List Int)) (l : List Int) (a : Int) (e : Int) : Nat → Int → Int → Option Int
  | 0, _, _ => none
  | k + 1, K, h => (if h < ((at' ((at' d a).1) e).length : Int) then (if 0 ≤ h ∧ h < ((at' ((at' d a).1) e).length : Int) then (if 0 ≤ h ∧ h < (l.length : Int) then ((f307_m K (at' (at' ((at' d a).1) e) h) (at' l h)).bind fun aY => (f23_l2 d l a e k aY (w64 (h + 1)))) else none) else none) else some K)
def f23_l1 (d : List (List (List Int) × List Int)) (l : List Int) (a : Int) : Nat → Int → (List Int) → Option (List Int)
  | 0, _, _ => none
  | k + 1, e, q => (if e < (((at' d a).2).length : Int) then ((if 0 ≤ e ∧ e < (((at' d a).2).length : Int) then ((f24_m (at' ((at' d a).2) e)).bind fun aZ => ((if 0 ≤ e ∧ e < (((at' d a).1).length : Int) then (f23_l2 d l a e FUEL aZ 0) else none).bind fun (M : Int) => (if a < (w64 ((d.length : Int) - 1)) then ((f306_m M).bind fun aN => (if 0 ≤ e ∧ e < (q.length : Int) then some (q.set e.toNat aN) else none)) else (if 0 ≤ e ∧ e < (q.length : Int) then some (q.set e.toNat M) else none)))) else none).bind fun (aO : List Int) => (f23_l1 d l a k (w64 (e + 1)) aO)) else some q)
def f23_l0 (d : List (List (List Int) × List Int)) : Nat → (List Int) → Int → Option (List Int)
  | 0, _, _ => none
  | k + 1, l, a => (if a < (d.length : Int) then ((if 0 ≤ a ∧ a < (d.length : Int) then (if 0 ≤ (((at' d a).2).length : Int) ∧ (((at' d a).2).length : Int) ≤ (((at' d a).2).length : Int) ∧ (((at' d a).2).length : Int) ≤ 1099511627776 then ((f23_l1 d l a FUEL 0 (List.replicate (((at' d a).2).length : Int).toNat (0 : Int))).bind fun (al : List Int) => some al) else none) else none).bind fun (ai : List Int) => (f23_l0 d k ai (w64 (a + 1)))) else some l)
def f23_m (V : Int) (U : Int) (T : Int) (R : Int) (d : List (List (List Int) × List Int)) (Q : Int) (O : Int) (x1 : List Int) : Option Int :=
  ((f23_l0 d FUEL x1 0).bind fun (L : List Int) => (if 0 ≤ (0 : Int) ∧ (0 : Int) < (L.length : Int) then some (at' L (0 : Int)) else none))
theorem f23_ok (V : Int) (U : Int) (T : Int) (R : Int) (d : List (List (List Int) × List Int)) (Q : Int) (O : Int) (x1 : List Int) {r : Int} (hm : f23_m V U T R d Q O x1 = some r) {u : Option Addr} {s : Nat} {cB : Option Addr} {cA : Nat} {I : Im} {F : List HP} {w : World} (hs : Sat I (F) w) (a0 : SN59 I u d.length s d) (cF : Rs I 1 cB x1.length cA (x1.flatMap e64)) :
    CV P 23 [.agg (cL4 V U T R u d.length s Q O).toArray, .slice cB x1.length cA, .func (.func 24) #[] #[]] w fun v w' => ∃ (J : Im), Im.le I J ∧ Sat J (F) w' ∧ v = iN r := by
 unfold f23_m at hm
 refine cv_of (n := 77) Proofs.Tryz.func23 rfl rfl (nLe rfl) <| cQ <| cR <| oB (v := .agg (cL4 V U T R u d.length s Q O).toArray) (cs := (cL4 V U T R u d.length s Q O)) hs rfl rfl ?_
 clear hs; intro b1 w hs
 refine asI rfl <| oN <| sK ?_
 obtain ⟨L, az, ct⟩ := bS hm
 replace hm := az; clear az
 refine cJ (fun f ds w => ∃ (y : Option Addr) (x : Nat) (aV : Im), ds = [] ∧ Im.le I aV ∧ Sat aV (blk b1 56 (cL4 V U T R u d.length s Q O) :: F) w ∧ f 1 = .slice y L.length x ∧ f 6 = iN 0 ∧ Rs aV 1 y L.length x (L.flatMap e64)) ?_ ?_
 · refine cQ <| cR <| oF (b := b1) (o := 0) fl56_4 rfl <| ld1 (k := 0) hs rfl rfl ty54 rfl <| oV (x_len sl54 rfl) rfl <| mI rfl <| oN <| sK <| cw_block ?_
   refine cL (S := fun k f ds w => ∃ (l : List Int) (a : Int), ∃ (y : Option Addr) (x : Nat) (X : Im), ds = [] ∧ Im.le I X ∧ f23_l0 d k l a = some L ∧ Sat X (blk b1 56 (cL4 V U T R u d.length s Q O) :: F) w ∧ f 1 = .slice y l.length x ∧ f 2 = .func (.func 24) #[] #[] ∧ f 3 = pQ b1 0 ∧ f 6 = iN 0 ∧ f 16 = .slice u d.length s ∧ f 17 = iN (d.length : Int) ∧ f 18 = iN a ∧ Rs X 1 y l.length x (l.flatMap e64)) ?_ (k := FUEL) ⟨x1, 0, cB, cA, I, rfl, iR, hm, hs, rfl, rfl, rfl, rfl, rfl, rfl, rfl, cF⟩
   clear hm hs
   rintro k f ds w ⟨l, a, y, x, X, rfl, aT, hm, hs, b8, cr, cq, b3, bO, bL, au, E⟩
   rcases k with _ | k
   · unfold f23_l0 at hm; cases hm
   unfold f23_l0 at hm
   refine cQ <| cR <| oV (x_lss au bL) rfl <| oN <| sQR ?_
   by_cases aP : a < (d.length : Int)
   · rw [if_pos aP] at hm
     refine cIt rfl (dT aP) <| cw_skip <| sK ?_
     obtain ⟨ai, az, cn⟩ := bS hm
     replace hm := az; clear az
     refine cJ (fun f ds w => ∃ (y : Option Addr) (x : Nat) (aI : Im), ds = [] ∧ Im.le X aI ∧ Sat aI (blk b1 56 (cL4 V U T R u d.length s Q O) :: F) w ∧ f 1 = .slice y ai.length x ∧ f 2 = .func (.func 24) #[] #[] ∧ f 3 = pQ b1 0 ∧ f 6 = iN 0 ∧ f 16 = .slice u d.length s ∧ f 17 = iN (d.length : Int) ∧ f 18 = iN a ∧ Rs aI 1 y ai.length x (ai.flatMap e64)) ?_ ?_
     · refine cw_block <| cQ <| cR <| mI au ?_
       have ah := (iS hm).1
       replace hm := (iS hm).2
       replace a0 := a0.mono aT
       refine oI (i := a) sl54 ty59 bO au ah.1 ah.2 (SN59.some a0 (by have := ah; omega)) ?_
       obtain ⟨csu10818, hru10818, hnu10818⟩ := (id a0)
       obtain ⟨vsu10818, hvu10818, H, G, B, A, rfl, aG, aF⟩ := NL.at rl59.len hnu10818 ah.1 ah.2
       refine oLR (p := a.toNat * 2) (vs := [.slice H (((at' d a).1).length) G, .slice B (((at' d a).2).length) A]) (v := .agg #[.slice H (((at' d a).1).length) G, .slice B (((at' d a).2).length) A]) hs hru10818 rfl ty59 ((cells_part hvu10818 0 2 (by decide)).trans rfl) rfl rfl <| ow_alloc hs ty59 rfl ?_
       clear hs; intro C w hs
       refine asI rfl <| oS (k := 0) (vs := [.slice H (((at' d a).1).length) G, .slice B (((at' d a).2).length) A]) (cs' := [.slice H (((at' d a).1).length) G, .slice B (((at' d a).2).length) A]) hs rfl rfl rfl ty59 rfl rfl (nLe rfl) rfl rfl ?_
       clear hs; intro w hs
       refine oN <| sQR <| cR <| oF (b := C) (o := 0) fl59_1 rfl <| ld1 (k := 0) hs rfl rfl ty24 rfl <| oV (x_len sl24 rfl) rfl ?_
       have aU := (iS hm).1
       replace hm := (iS hm).2
       refine ow_makeT (enc := e64) (z := (0 : Int)) (i := (((at' d a).2).length : Int)) (j := (((at' d a).2).length : Int)) hs sl92 ty94 el94 rfl rfl rfl rfl aU.1 aU.2.1 aU.2.2 (by decide) ?_
       clear hs; intro D w hs
       refine asS rfl <| oN <| sK ?_
       obtain ⟨al, az, cm⟩ := bS hm
       replace hm := az; clear az
       refine cJ (fun f ds w => ∃ (bi : Im), ds = [] ∧ Im.le X bi ∧ Sat bi (osl 94 1 D (List.replicate (((at' d a).2).length : Int).toNat (0 : Int)).length ((((at' d a).2).length : Int).toNat) (al.flatMap e64) :: blk C 59 [.slice H (((at' d a).1).length) G, .slice B (((at' d a).2).length) A] :: blk b1 56 (cL4 V U T R u d.length s Q O) :: F) w ∧ f 1 = .slice y l.length x ∧ f 2 = .func (.func 24) #[] #[] ∧ f 3 = pQ b1 0 ∧ f 6 = iN 0 ∧ f 9 = .slice D ((List.replicate (((at' d a).2).length : Int).toNat (0 : Int)).length) ((((at' d a).2).length : Int).toNat) ∧ f 16 = .slice u d.length s ∧ f 17 = iN (d.length : Int) ∧ f 18 = iN a) ?_ ?_
       · refine cQ <| cR <| oF (b := C) (o := 0) fl59_1 rfl <| ld1 (k := 1) hs rfl rfl ty24 rfl <| oV (x_len sl24 rfl) rfl <| mI rfl <| oN <| sK <| cw_block ?_
         refine cL (S := fun k f ds w => ∃ (e : Int) (q : List Int), ∃ (aH : Im), ds = [] ∧ Im.le X aH ∧ f23_l1 d l a k e q = some al ∧ Sat aH (osl 94 1 D (List.replicate (((at' d a).2).length : Int).toNat (0 : Int)).length ((((at' d a).2).length : Int).toNat) (q.flatMap e64) :: blk C 59 [.slice H (((at' d a).1).length) G, .slice B (((at' d a).2).length) A] :: blk b1 56 (cL4 V U T R u d.length s Q O) :: F) w ∧ f 1 = .slice y l.length x ∧ f 2 = .func (.func 24) #[] #[] ∧ f 3 = pQ b1 0 ∧ f 6 = iN 0 ∧ f 7 = iN a ∧ f 8 = pQ C 0 ∧ f 9 = .slice D ((List.replicate (((at' d a).2).length : Int).toNat (0 : Int)).length) ((((at' d a).2).length : Int).toNat) ∧ f 16 = .slice u d.length s ∧ f 17 = iN (d.length : Int) ∧ f 18 = iN a ∧ f 28 = .slice B (((at' d a).2).length) A ∧ f 29 = iN (((at' d a).2).length : Int) ∧ f 30 = iN e) ?_ (k := FUEL) ⟨0, List.replicate (((at' d a).2).length : Int).toNat (0 : Int), X, rfl, iR, hm, hs, b8, cr, cq, b3, rfl, rfl, rfl, bO, bL, au, rfl, rfl, rfl⟩
         clear hm hs
         rintro k f ds w ⟨e, q, aH, rfl, W, hm, hs, b7, a2, b5, b2, cp, bY, bW, bN, bK, bI, bD, bB, ao⟩
         rcases k with _ | k
         · unfold f23_l1 at hm; cases hm
         unfold f23_l1 at hm
         refine cQ <| cR <| oV (x_lss ao bB) rfl <| oN <| sQR ?_
         by_cases aD : e < (((at' d a).2).length : Int)
         · rw [if_pos aD] at hm
           refine cIt rfl (dT aD) <| cw_skip <| sK ?_
           obtain ⟨aO, az, cl⟩ := bS hm
           replace hm := az; clear az
           refine cJ (fun f ds w => ∃ (aS : Im), ds = [] ∧ Im.le aH aS ∧ Sat aS (osl 94 1 D (List.replicate (((at' d a).2).length : Int).toNat (0 : Int)).length ((((at' d a).2).length : Int).toNat) (aO.flatMap e64) :: blk C 59 [.slice H (((at' d a).1).length) G, .slice B (((at' d a).2).length) A] :: blk b1 56 (cL4 V U T R u d.length s Q O) :: F) w ∧ f 1 = .slice y l.length x ∧ f 2 = .func (.func 24) #[] #[] ∧ f 3 = pQ b1 0 ∧ f 6 = iN 0 ∧ f 7 = iN a ∧ f 8 = pQ C 0 ∧ f 9 = .slice D ((List.replicate (((at' d a).2).length : Int).toNat (0 : Int)).length) ((((at' d a).2).length : Int).toNat) ∧ f 16 = .slice u d.length s ∧ f 17 = iN (d.length : Int) ∧ f 18 = iN a ∧ f 28 = .slice B (((at' d a).2).length) A ∧ f 29 = iN (((at' d a).2).length : Int) ∧ f 30 = iN e) ?_ ?_
           · refine cw_block <| cQ <| cR <| mI ao ?_
             have ag := (iS hm).1
             replace hm := (iS hm).2
             replace aF := aF.mono W
             refine oI (i := e) sl24 ty3 bD ao ag.1 ag.2 (Rs.some aF (by have := ag; omega)) <| oLR (p := e.toNat * 1) (vs := [iN (at' ((at' d a).2) e)]) (v := iN (at' ((at' d a).2) e)) hs aF rfl ty3 (flat_at (enc := e64) (sz := 1) (fun _ => rfl) ((at' d a).2) e ag.1 ag.2 0 1 (by decide)) rfl rfl <| asI rfl <| asI rfl <| oN <| sQR <| cR <| oV (xM (v := .func (.func 24) #[] #[]) a2) rfl <| mI rfl ?_
             obtain ⟨aZ, cj, hm⟩ := bS hm
             refine oC (fi := []) (vs := [iN (at' ((at' d a).2) e)]) (ca := []) rfl ⟨rfl, trivial⟩ en24 (f24_ok _ cj hs) ?_
             clear hs; rintro _ w ⟨bh, ak, hs, rfl⟩
             refine asI rfl <| oN <| sK ?_
             obtain ⟨M, az, ck⟩ := bS hm
             replace hm := az; clear az
             refine cJ (fun f ds w => ∃ (aR : Im), ds = [] ∧ Im.le bh aR ∧ Sat aR (osl 94 1 D (List.replicate (((at' d a).2).length : Int).toNat (0 : Int)).length ((((at' d a).2).length : Int).toNat) (q.flatMap e64) :: blk C 59 [.slice H (((at' d a).1).length) G, .slice B (((at' d a).2).length) A] :: blk b1 56 (cL4 V U T R u d.length s Q O) :: F) w ∧ f 1 = .slice y l.length x ∧ f 2 = .func (.func 24) #[] #[] ∧ f 3 = pQ b1 0 ∧ f 6 = iN 0 ∧ f 7 = iN a ∧ f 8 = pQ C 0 ∧ f 9 = .slice D ((List.replicate (((at' d a).2).length : Int).toNat (0 : Int)).length) ((((at' d a).2).length : Int).toNat) ∧ f 10 = iN e ∧ f 12 = iN M ∧ f 16 = .slice u d.length s ∧ f 17 = iN (d.length : Int) ∧ f 18 = iN a ∧ f 28 = .slice B (((at' d a).2).length) A ∧ f 29 = iN (((at' d a).2).length : Int) ∧ f 30 = iN e) ?_ ?_
             · refine cQ <| cR <| oF (b := C) (o := 0) fl59_0 bY <| ld1 (k := 1) hs rfl rfl ty57 rfl <| mI rfl ?_
               have af := (iS hm).1
               replace hm := (iS hm).2
               replace aG := aG.mono (W.trans ak)
               refine oI (i := e) sl57 ty24 rfl rfl af.1 af.2 (SN24.some aG (by have := af; omega)) ?_
               obtain ⟨csu11753, hru11753, hnu11753⟩ := (id aG)
               obtain ⟨vsu11753, hvu11753, bg, bf, rfl, aE⟩ := NL.at rl24.len hnu11753 af.1 af.2
               refine oLR (p := e.toNat * 1) (vs := [.slice bg ((at' ((at' d a).1) e).length) bf]) (v := .slice bg ((at' ((at' d a).1) e).length) bf) hs hru11753 rfl ty24 ((cells_part hvu11753 0 1 (by decide)).trans rfl) rfl rfl <| oV (x_len sl24 rfl) rfl <| mI rfl <| oN <| sK <| cw_block ?_
               refine cL (S := fun k f ds w => ∃ (K : Int) (h : Int), ∃ (aQ : Im), ds = [] ∧ Im.le bh aQ ∧ f23_l2 d l a e k K h = some M ∧ Sat aQ (osl 94 1 D (List.replicate (((at' d a).2).length : Int).toNat (0 : Int)).length ((((at' d a).2).length : Int).toNat) (q.flatMap e64) :: blk C 59 [.slice H (((at' d a).1).length) G, .slice B (((at' d a).2).length) A] :: blk b1 56 (cL4 V U T R u d.length s Q O) :: F) w ∧ f 1 = .slice y l.length x ∧ f 2 = .func (.func 24) #[] #[] ∧ f 3 = pQ b1 0 ∧ f 6 = iN 0 ∧ f 7 = iN a ∧ f 8 = pQ C 0 ∧ f 9 = .slice D ((List.replicate (((at' d a).2).length : Int).toNat (0 : Int)).length) ((((at' d a).2).length : Int).toNat) ∧ f 10 = iN e ∧ f 12 = iN K ∧ f 16 = .slice u d.length s ∧ f 17 = iN (d.length : Int) ∧ f 18 = iN a ∧ f 28 = .slice B (((at' d a).2).length) A ∧ f 29 = iN (((at' d a).2).length : Int) ∧ f 30 = iN e ∧ f 42 = .slice bg ((at' ((at' d a).1) e).length) bf ∧ f 43 = iN ((at' ((at' d a).1) e).length : Int) ∧ f 44 = iN h) ?_ (k := FUEL) ⟨aZ, 0, bh, rfl, iR, hm, hs, b7, a2, b5, b2, cp, bY, bW, rfl, rfl, bN, bK, bI, bD, bB, ao, rfl, rfl, rfl⟩
               clear hm hs
               rintro k f ds w ⟨K, h, aQ, rfl, aj, hm, hs, a5, b6, b4, b0, bZ, bX, bV, bQ, bP, bM, bJ, bH, bC, bA, bv, br, bq, am⟩
               rcases k with _ | k
               · unfold f23_l2 at hm; cases hm
               unfold f23_l2 at hm
               refine cQ <| cR <| oV (x_lss am bq) rfl <| oN <| sQR ?_
               by_cases aC : h < ((at' ((at' d a).1) e).length : Int)
               · rw [if_pos aC] at hm
                 refine cIt rfl (dT aC) <| cw_skip <| sQR <| cw_block <| cQ <| cR <| mI am ?_
                 have ae := (iS hm).1
                 replace hm := (iS hm).2
                 replace aE := aE.mono aj
                 refine oI (i := h) sl24 ty3 br am ae.1 ae.2 (Rs.some aE (by have := ae; omega)) <| oLR (p := h.toNat * 1) (vs := [iN (at' (at' ((at' d a).1) e) h)]) (v := iN (at' (at' ((at' d a).1) e) h)) hs aE rfl ty3 (flat_at (enc := e64) (sz := 1) (fun _ => rfl) (at' ((at' d a).1) e) h ae.1 ae.2 0 1 (by decide)) rfl rfl <| asI rfl <| asI rfl <| oN <| sK <| cR <| mI bP <| oV (x_mkiface (t := 94) (v := iN K) (by kernel_rfl) rfl) rfl <| mI rfl <| mS a5 <| mI rfl ?_
                 have ad := (iS hm).1
                 replace hm := (iS hm).2
                 replace E := E.mono ((W.trans ak).trans aj)
                 refine oI (i := h) sl92 ty94 rfl rfl ad.1 ad.2 (Rs.some E (by have := ad; omega)) <| oLR (p := h.toNat * 1) (vs := [iN (at' l h)]) (v := iN (at' l h)) hs E rfl ty94 (flat_at (enc := e64) (sz := 1) (fun _ => rfl) l h ad.1 ad.2 0 1 (by decide)) rfl rfl ?_
                 obtain ⟨aY, ci, hm⟩ := bS hm
                 refine ow_invoke (vs := [iN (at' (at' ((at' d a).1) e) h), iN (at' l h)]) rfl ⟨rfl, rfl, trivial⟩ (fun w => by rfl) en307 (f307_ok _ _ _ ci hs) ?_
                 clear hs; rintro _ w ⟨cw, cg, hs, rfl⟩
                 refine asI rfl <| oN <| blockK_n <| sK <| cR <| oV (x_add am rfl) rfl <| mI rfl <| oN ?_
                 exact lN ⟨k, Nat.lt_succ_self k, aY, w64 (h + 1), cw, rfl, (aj.trans cg), hm, hs, a5, b6, b4, b0, bZ, bX, bV, bQ, rfl, bM, bJ, bH, bC, bA, bv, br, bq, rfl⟩
               rw [if_neg aC] at hm
               refine cIf rfl (dF aC) <| cw_exit <| seqK_x <| loopK_x <| blockK_hit ?_
               obtain rfl := oJ hm
               refine jN ⟨aQ, rfl, aj, hs, a5, b6, b4, b0, bZ, bX, bV, bQ, bP, bM, bJ, bH, bC, bA, bv⟩
             clear hm hs
             rintro f ds w ⟨aR, rfl, aX, hs, aM, aL, Z, aK, Y, aJ, N, ay, ax, aw, av, ar, aq, ap, an⟩
             replace hm := ck
             refine cQ <| cQ <| cR <| mI Y <| oF (b := b1) (o := 0) fl56_4 Z <| ld1 (k := 2) hs rfl rfl ty54 rfl <| oV (x_len sl54 rfl) rfl <| oV (x_sub rfl rfl) rfl <| oV (x_lss rfl rfl) rfl <| oN <| sK ?_
             by_cases aB : a < (w64 ((d.length : Int) - 1))
             · rw [if_pos aB] at hm
               refine cIt rfl (dT aB) <| cR <| mI ax <| oV (x_mkiface (t := 94) (v := iN M) (by kernel_rfl) rfl) rfl ?_
               obtain ⟨aN, ch, hm⟩ := bS hm
               refine ow_invoke (vs := []) rfl trivial (fun w => by rfl) en306 (f306_ok _ ch hs) ?_
               clear hs; rintro _ w ⟨cv, cf, hs, rfl⟩
               refine asI rfl <| oN <| sK <| cR <| mS N <| mI ay <| mI rfl ?_
               have ac := (iS hm).1
               replace hm := (iS hm).2
               have cE := osl_n (k := 0) hs rfl (fun _ => rfl) (by decide)
               refine oI (i := e) sl92 ty94 rfl rfl ac.1 (by have := ac; omega) (osl_some hs (k := 0) rfl (by have := ac; omega)) <| ow_storeT (k := 0) (enc := e64) (xx := aN) (i := e) (m := (List.replicate (((at' d a).2).length : Int).toNat (0 : Int)).length) (vs := [iN aN]) hs rfl rfl rfl ty94 rfl rfl rfl (fun _ => rfl) (by decide) ac.1 ac.2 ?_
               clear hs; intro w hs
               refine oN <| blockK_n ?_
               obtain rfl := oJ hm
               refine jN ⟨cv, rfl, ((ak.trans aX).trans cf), hs, aM, aL, Z, aK, Y, aJ, N, aw, av, ar, aq, ap, an⟩
             rw [if_neg aB] at hm
             refine cIf rfl (dF aB) <| cw_skip <| sK <| cR <| mS N <| mI ay <| mI ax ?_
             have ab := (iS hm).1
             replace hm := (iS hm).2
             have cC := osl_n (k := 0) hs rfl (fun _ => rfl) (by decide)
             refine oI (i := e) sl92 ty94 rfl rfl ab.1 (by have := ab; omega) (osl_some hs (k := 0) rfl (by have := ab; omega)) <| ow_storeT (k := 0) (enc := e64) (xx := M) (i := e) (m := (List.replicate (((at' d a).2).length : Int).toNat (0 : Int)).length) (vs := [iN M]) hs rfl rfl rfl ty94 rfl rfl rfl (fun _ => rfl) (by decide) ab.1 ab.2 ?_
             clear hs; intro w hs
             refine oN <| blockK_n ?_
             obtain rfl := oJ hm
             refine jN ⟨aR, rfl, (ak.trans aX), hs, aM, aL, Z, aK, Y, aJ, N, aw, av, ar, aq, ap, an⟩
           clear hm hs
           rintro f ds w ⟨aS, rfl, ce, hs, bE, bw, bs, bn, bm, bl, bj, bc, a9, a6, a4, a3, a1⟩
           replace hm := cl
           refine cR <| oV (x_add a1 rfl) rfl <| mI rfl <| oN ?_
           exact lN ⟨k, Nat.lt_succ_self k, w64 (e + 1), aO, aS, rfl, (W.trans ce), hm, hs, bE, bw, bs, bn, bm, bl, bj, bc, a9, a6, a4, a3, rfl⟩
         rw [if_neg aD] at hm
         refine cIf rfl (dF aD) <| cw_exit <| seqK_x <| loopK_x <| blockK_hit ?_
         obtain rfl := oJ hm
         refine jN ⟨aH, rfl, W, hs, b7, a2, b5, b2, bW, bN, bK, bI⟩
       clear hm hs
       rintro f ds w ⟨bi, rfl, cd, hs, cx, bx, bt, bo, bk, bd, ba, a7⟩
       replace hm := cm
       have bR := osl_n (k := 0) hs rfl (fun _ => rfl) (by decide)
       replace hs := hs.eqv (k := 0) rfl (by rw [bR])
       obtain ⟨cu, cc, co, hs⟩ := hs.freezeO
       refine cR <| mS (slen (oa := D) (m := (List.replicate (((at' d a).2).length : Int).toNat (0 : Int)).length) (m' := al.length) (c := (((at' d a).2).length : Int).toNat) bk bR) <| asS rfl <| oN <| blockK_n ?_
       replace hs := hs.erase 0
       obtain rfl := oJ hm
       refine jN ⟨D, (((at' d a).2).length : Int).toNat, cu, rfl, (cd.trans cc), hs, rfl, bx, bt, bo, bd, ba, a7, co⟩
     clear hm hs
     rintro f ds w ⟨y, x, aI, rfl, cb, hs, bG, bz, bu, bp, be, bb, a8, aW⟩
     replace hm := cn
     refine cR <| oV (x_add a8 rfl) rfl <| mI rfl <| oN ?_
     exact lN ⟨k, Nat.lt_succ_self k, ai, w64 (a + 1), y, x, aI, rfl, (aT.trans cb), hm, hs, bG, bz, bu, bp, be, bb, rfl, aW⟩
   rw [if_neg aP] at hm
   refine cIf rfl (dF aP) <| cw_exit <| seqK_x <| loopK_x <| blockK_hit ?_
   obtain rfl := oJ hm
   refine jN ⟨y, x, X, rfl, aT, hs, b8, b3, E⟩
 clear hm hs
 rintro f ds w ⟨y, x, aV, rfl, b9, hs, bU, cz, aA⟩
 replace hm := ct
 refine cQ <| cR <| mS bU ?_
 have aa := (iS hm).1
 replace hm := (iS hm).2
 refine oI (i := (0 : Int)) sl92 ty94 rfl rfl aa.1 aa.2 (Rs.some aA (by have := aa; omega)) <| oLR (p := (0 : Int).toNat * 1) (vs := [iN (at' L (0 : Int))]) (v := iN (at' L (0 : Int))) hs aA rfl ty94 (flat_at (enc := e64) (sz := 1) (fun _ => rfl) L (0 : Int) aa.1 aa.2 0 1 (by decide)) rfl rfl <| asI rfl <| oN <| sK <| cw_ret <| rK (rs := [.tmp 6]) (vs := [iN (at' L (0 : Int))]) (.inr rfl) rfl ⟨rfl, trivial⟩ ?_
 obtain rfl := oJ hm
 replace hs := hs.erase 0
 exact ⟨aV, b9, hs, rfl⟩
def f12_l0 (C : List Int) : Nat → Int → (List Int) → Option (List Int)
  | 0, _, _ => none
  | k + 1, a, b => (if a < (C.length : Int) then (if 0 ≤ a ∧ a < (C.length : Int) then (if b.length + [(at' C a)].length ≤ 1099511627776 then (f12_l0 C k (w64 (a + 1)) (b ++ [(at' C a)])) else none) else none) else some b)
def f12_m (q : Int) (o : Int) (m : Int) (l : Int) (c : List (List (List Int) × List Int)) (j : Int) (h : Int) (B : Int) (A : Int) (y : List Int) : Option (Int × Int × Int) :=
  ((f21_m q o m l c j h ([(B, A, y)] : List (Int × Int × List Int))).bind fun r9 => (if ¬ (r9 = 0) then some (0, 0, r9) else (((f22_m q o m l c j h B A y).bind fun C => (f12_l0 C FUEL 0 ([] : List Int))).bind fun (R : List Int) => ((f23_m q o m l c j h R).bind fun D => ((f25_m q o m l c j h D D).bind fun ah => some (D, ah, 0))))))
theorem f12_ok (q : Int) (o : Int) (m : Int) (l : Int) (c : List (List (List Int) × List Int)) (j : Int) (h : Int) (B : Int) (A : Int) (y : List Int) {r : Int × Int × Int} (hm : f12_m q o m l c j h B A y = some r) {e : Option Addr} {d : Nat} {x : Option Addr} {u : Nat} {I : Im} {F : List HP} {w : World} (hs : Sat I (F) w) (z : SN59 I e c.length d c) (E : Rs I 1 x y.length u (y.flatMap e64)) :
    CV P 12 [.agg (cL4 q o m l e c.length d j h).toArray, .agg (cL0 B A x y.length u).toArray] w fun v w' => ∃ (J : Im), Im.le I J ∧ Sat J (F) w' ∧ v = .tuple (rL5 r).toArray := by
 unfold f12_m at hm
 refine cv_of (n := 41) Proofs.Tryz.func12 rfl rfl (nLe rfl) <| cQ <| cR <| oB (v := .agg (cL4 q o m l e c.length d j h).toArray) (cs := (cL4 q o m l e c.length d j h)) hs rfl rfl ?_
 clear hs; intro b1 w hs
 refine oB (v := .agg (cL0 B A x y.length u).toArray) (cs := (cL0 B A x y.length u)) hs rfl rfl ?_
 clear hs; intro b3 w hs
 refine asI rfl <| asI rfl <| asI rfl <| oN <| sQR <| cQ <| cR <| oL (k := 1) (vs := (cL4 q o m l e c.length d j h)) (v := .agg (cL4 q o m l e c.length d j h).toArray) hs rfl rfl ty56 rfl rfl rfl <| oL (k := 0) (vs := (cL0 B A x y.length u)) (v := .agg (cL0 B A x y.length u).toArray) hs rfl rfl ty26 rfl rfl rfl <| ow_buildSlice (vp := [(0, .agg (cL0 B A x y.length u).toArray)]) (cs := (cL0 B A x y.length u)) hs sl86 ty26 rfl ⟨rfl, rfl, trivial⟩ (by decide) rfl (by decide) ?_
 clear hs; intro a7 J5 w ab hs aL
 obtain ⟨r9, aB, hm⟩ := bS hm
 replace z := z.mono ab; replace E := E.mono ab
 refine oC (fi := []) (vs := [.agg (cL4 q o m l e c.length d j h).toArray, .slice a7 1 1]) (ca := []) rfl ⟨rfl, rfl, trivial⟩ en21 (f21_ok _ _ _ _ _ _ _ _ aB hs z ⟨_, aL, (NL.one ⟨x, u, rfl, E⟩)⟩) ?_
 clear hs; rintro _ w ⟨aJ, H, hs, rfl⟩
 refine asI rfl <| oN <| sQR <| cR <| mI rfl <| oV (x_neqD rfl rfl) rfl <| oN <| sK ?_
 by_cases af : ¬ (r9 = 0)
 · rw [if_pos af] at hm
   refine cIt rfl (dT af) <| cQ <| cR <| mI rfl <| asI rfl <| asI rfl <| asI rfl <| oN <| sK <| cw_ret <| seqK_r <| rK (rs := [.tmp 4, .tmp 5, .tmp 6]) (vs := (cL6 0 0 r9)) (.inr rfl) rfl ⟨rfl, rfl, rfl, trivial⟩ ?_
   obtain rfl := oJ hm
   replace hs := hs.erase 0
   replace hs := hs.erase 0
   exact ⟨aJ, (ab.trans H), hs, rfl⟩
 rw [if_neg af] at hm
 refine cIf rfl (dF af) <| cw_skip <| sQR <| cR <| asS rfl <| oN <| sK ?_
 replace hs := hs.pushNil 94 1
 obtain ⟨R, aD, aC⟩ := bS hm
 replace hm := aD; clear aD
 refine cJ (fun f ds w => ∃ (t : Option Addr) (s : Nat) (av : Im), ds = [] ∧ Im.le aJ av ∧ Sat av (osl 94 1 t R.length s (R.flatMap e64) :: blk b3 26 (cL0 B A x y.length u) :: blk b1 56 (cL4 q o m l e c.length d j h) :: F) w ∧ f 2 = pQ b1 0 ∧ f 4 = iN 0 ∧ f 5 = .int .u8 0 ∧ f 6 = iN 0 ∧ f 8 = .slice t R.length s) ?_ ?_
 · refine cQ <| cR <| oL (k := 2) (vs := (cL4 q o m l e c.length d j h)) (v := .agg (cL4 q o m l e c.length d j h).toArray) hs rfl rfl ty56 rfl rfl rfl <| oL (k := 1) (vs := (cL0 B A x y.length u)) (v := .agg (cL0 B A x y.length u).toArray) hs rfl rfl ty26 rfl rfl rfl ?_
   obtain ⟨C, aA, hm⟩ := bS hm
   replace z := z.mono H; replace E := E.mono H
   refine oC (fi := []) (vs := [.agg (cL4 q o m l e c.length d j h).toArray, .agg (cL0 B A x y.length u).toArray]) (ca := []) rfl ⟨rfl, rfl, trivial⟩ en22 (f22_ok _ _ _ _ _ _ _ _ _ _ aA hs z E) ?_
   clear hs; rintro _ w ⟨aH, am, al, aq, hs, rfl, hRz96_0⟩
   refine oV (x_len sl24 rfl) rfl <| mI rfl <| oN <| sK <| cw_block ?_
   refine cL (S := fun k f ds w => ∃ (a : Int) (b : List Int), ∃ (t : Option Addr) (s : Nat) (ag : Im), ds = [] ∧ Im.le aH ag ∧ f12_l0 C k a b = some R ∧ Sat ag (osl 94 1 t b.length s (b.flatMap e64) :: blk b3 26 (cL0 B A x y.length u) :: blk b1 56 (cL4 q o m l e c.length d j h) :: F) w ∧ f 2 = pQ b1 0 ∧ f 4 = iN 0 ∧ f 5 = .int .u8 0 ∧ f 6 = iN 0 ∧ f 8 = .slice t b.length s ∧ f 21 = .slice am C.length al ∧ f 22 = iN (C.length : Int) ∧ f 23 = iN a) ?_ (k := FUEL) ⟨0, ([] : List Int), none, 0, aH, rfl, iR, hm, hs, rfl, rfl, rfl, rfl, rfl, rfl, rfl, rfl⟩
   clear hm hs
   rintro k f ds w ⟨a, b, t, s, ag, rfl, L, hm, hs, aa, Z, W, V, U, Q, O, G⟩
   rcases k with _ | k
   · unfold f12_l0 at hm; cases hm
   unfold f12_l0 at hm
   refine cQ <| cR <| oV (x_lss G O) rfl <| oN <| sQR ?_
   by_cases M : a < (C.length : Int)
   · rw [if_pos M] at hm
     refine cIt rfl (dT M) <| cw_skip <| sQR <| cw_block <| cQ <| cR ?_
     have K := (iS hm).1
     replace hm := (iS hm).2
     replace hRz96_0 := hRz96_0.mono L
     refine oI (i := a) sl24 ty3 Q G K.1 K.2 (Rs.some hRz96_0 (by have := K; omega)) <| oLR (p := a.toNat * 1) (vs := [iN (at' C a)]) (v := iN (at' C a)) hs hRz96_0 rfl ty3 (flat_at (enc := e64) (sz := 1) (fun _ => rfl) C a K.1 K.2 0 1 (by decide)) rfl rfl <| asI rfl <| oN <| sK <| cR <| mS U <| mI rfl <| ow_buildSlice (vp := [(0, iN (at' C a))]) (cs := [iN (at' C a)]) hs sl92 ty94 rfl ⟨rfl, rfl, trivial⟩ (by decide) rfl (by decide) ?_
     clear hs; intro aG an w ak hs T
     replace T : Rs an 1 aG [(at' C a)].length 1 ([(at' C a)].flatMap e64) := T
     have ar := (iS hm).1
     replace hm := (iS hm).2
     refine ow_appendT (k := 0) (enc := e64) (X := b) (Y := [(at' C a)]) hs rfl sl92 ty94 el94 rfl rfl rfl T (fun _ => rfl) ar (by decide) ?_
     clear hs; intro aF aE w hs
     refine asS rfl <| oN <| blockK_n <| sK <| cR <| oV (x_add G rfl) rfl <| mI rfl <| oN ?_
     exact lN ⟨k, Nat.lt_succ_self k, w64 (a + 1), b ++ [(at' C a)], aF, aE, an, rfl, (L.trans ak), hm, hs, aa, Z, W, V, rfl, Q, O, rfl⟩
   rw [if_neg M] at hm
   refine cIf rfl (dF M) <| cw_exit <| seqK_x <| loopK_x <| blockK_hit ?_
   obtain rfl := oJ hm
   refine jN ⟨t, s, ag, rfl, (aq.trans L), hs, aa, Z, W, V, U⟩
 clear hm hs
 rintro f ds w ⟨t, s, av, rfl, ae, hs, N, az, ay, ax, ai⟩
 replace hm := aC
 refine cQ <| cR <| oL (k := 2) (vs := (cL4 q o m l e c.length d j h)) (v := .agg (cL4 q o m l e c.length d j h).toArray) hs rfl N ty56 rfl rfl rfl <| mS ai ?_
 obtain ⟨aO, ad, au, hs⟩ := hs.freezeO
 obtain ⟨D, ap, hm⟩ := bS hm
 replace z := z.mono ((H.trans ae).trans ad)
 refine oC (fi := []) (vs := [.agg (cL4 q o m l e c.length d j h).toArray, .slice t R.length s, .func (.func 24) #[] #[]]) (ca := []) rfl ⟨rfl, rfl, rfl, trivial⟩ en23 (f23_ok _ _ _ _ _ _ _ _ ap hs z au) ?_
 clear hs; rintro _ w ⟨aN, ac, hs, rfl⟩
 refine asI rfl <| oN <| sQR <| cR <| mI rfl <| oL (k := 1) (vs := (cL4 q o m l e c.length d j h)) (v := .agg (cL4 q o m l e c.length d j h).toArray) hs rfl N ty56 rfl rfl rfl <| mI rfl <| mI rfl <| ow_buildA (vp := [(0, iN D), (1, iN D)]) (cs := [iN D, iN D]) ar99 ty3 ty99 ⟨rfl, rfl, rfl, rfl, trivial⟩ rfl ?_
 obtain ⟨ah, ao, hm⟩ := bS hm
 replace z := z.mono ac
 refine oC (fi := []) (vs := [.agg (cL4 q o m l e c.length d j h).toArray, .agg #[iN D, iN D]]) (ca := []) rfl ⟨rfl, rfl, trivial⟩ en25 (f25_ok _ _ _ _ _ _ _ _ _ ao hs z) ?_
 clear hs; rintro _ w ⟨aI, aj, hs, rfl⟩
 refine asI rfl <| asI rfl <| asI rfl <| oN <| sK <| cw_ret <| rK (rs := [.tmp 4, .tmp 5, .tmp 6]) (vs := (cL6 D ah 0)) (.inr rfl) rfl ⟨rfl, rfl, rfl, trivial⟩ ?_
 obtain rfl := oJ hm
 replace hs := hs.erase 0
 replace hs := hs.erase 0
 exact ⟨aI, (((((ab.trans H).trans ae).trans ad).trans ac).trans aj), hs, rfl⟩
def f13_l0 (x : List Int) (C : List Int) : Nat → Int → Option (Sum Unit (Int × Int))
  | 0, _ => none
  | k + 1, l => (if l < (x.length : Int) then (if 0 ≤ l ∧ l < (x.length : Int) then (if 0 ≤ l ∧ l < (C.length : Int) then (if (at' C l) < (at' x l) then some (Sum.inr (0, 2)) else (f13_l0 x C k (w64 (l + 1)))) else none) else none) else some (Sum.inl ()))
def f13_l1 (D : List Int) (ah : List Int) : Nat → Int → (List (Int × Int)) → Option (List (Int × Int))
  | 0, _, _ => none
  | k + 1, d, Y => (if d < ((List.replicate (D.length : Int).toNat ((0, 0) : Int × Int)).length : Int) then (if 0 ≤ d ∧ d < (D.length : Int) then (if 0 ≤ d ∧ d < (ah.length : Int) then (if 0 ≤ d ∧ d < (Y.length : Int) then (f13_l1 D ah k (w64 (d + 1)) (Y.set d.toNat ((at' D d), (at' ah d)))) else none) else none) else none) else some Y)
def f13_m (W : Int) (V : Int) (U : Int) (T : Int) (M : List (List (List Int) × List Int)) (R : Int) (Q : Int) (ad : Int) (ac : Int) (x : List Int) (aa : Int) (Z : Int) (C : List Int) (x3 : Int) : Option (Int × Int) :=
  ((f21_m W V U T M R Q ([(ad, ac, x), (aa, Z, C)] : List (Int × Int × List Int))).bind fun bg => (if ¬ (bg = 0) then some (0, bg) else (lb (S := Unit) (f13_l0 x C FUEL 0) id (fun bI => ((f26_m 0 8 [x3]).bind fun bA => (if (!bA) = true then some (0, 2) else ((f22_m W V U T M R Q ad ac x).bind fun D => ((f22_m W V U T M R Q aa Z C).bind fun ah => (if 0 ≤ (D.length : Int) ∧ (D.length : Int) ≤ (D.length : Int) ∧ (D.length : Int) ≤ 1099511627776 then ((f13_l1 D ah FUEL 0 (List.replicate (D.length : Int).toNat ((0, 0) : Int × Int))).bind fun (aD : List (Int × Int)) => ((f27_m W V U T M R Q aD x3).bind fun bf => some (bf, 0))) else none)))))))))
theorem f13_ok (W : Int) (V : Int) (U : Int) (T : Int) (M : List (List (List Int) × List Int)) (R : Int) (Q : Int) (ad : Int) (ac : Int) (x : List Int) (aa : Int) (Z : Int) (C : List Int) (x3 : Int) {r : Int × Int} (hm : f13_m W V U T M R Q ad ac x aa Z C x3 = some r) {H : Option Addr} {G : Nat} {O : Option Addr} {X : Nat} {K : Option Addr} {N : Nat} {I : Im} {F : List HP} {w : World} (hs : Sat I (F) w) (ak : SN59 I H M.length G M) (aj : Rs I 1 O x.length X (x.flatMap e64)) (ai : Rs I 1 K C.length N (C.flatMap e64)) :
    CV P 13 [.agg (cL4 W V U T H M.length G R Q).toArray, .agg (cL0 ad ac O x.length X).toArray, .agg (cL0 aa Z K C.length N).toArray, iN x3] w fun v w' => ∃ (J : Im), Im.le I J ∧ Sat J (F) w' ∧ v = .tuple #[.int .u8 r.1, iN r.2] := by
 unfold f13_m at hm
 refine cv_of (n := 77) Proofs.Tryz.func13 rfl rfl (nLe rfl) <| cQ <| cR <| oB (v := .agg (cL4 W V U T H M.length G R Q).toArray) (cs := (cL4 W V U T H M.length G R Q)) hs rfl rfl ?_
 clear hs; intro b1 w hs
 refine oB (v := .agg (cL0 ad ac O x.length X).toArray) (cs := (cL0 ad ac O x.length X)) hs rfl rfl ?_
 clear hs; intro b3 w hs
 refine oB (v := .agg (cL0 aa Z K C.length N).toArray) (cs := (cL0 aa Z K C.length N)) hs rfl rfl ?_
 clear hs; intro b5 w hs
 refine asI rfl <| asI rfl <| oN <| sQR <| cQ <| cR <| oL (k := 2) (vs := (cL4 W V U T H M.length G R Q)) (v := .agg (cL4 W V U T H M.length G R Q).toArray) hs rfl rfl ty56 rfl rfl rfl <| oL (k := 1) (vs := (cL0 ad ac O x.length X)) (v := .agg (cL0 ad ac O x.length X).toArray) hs rfl rfl ty26 rfl rfl rfl <| oL (k := 0) (vs := (cL0 aa Z K C.length N)) (v := .agg (cL0 aa Z K C.length N).toArray) hs rfl rfl ty26 rfl rfl rfl <| ow_buildSlice (vp := [(0, .agg (cL0 ad ac O x.length X).toArray), (1, .agg (cL0 aa Z K C.length N).toArray)]) (cs := (cL7 ad ac O x.length X aa Z K C.length N)) hs sl86 ty26 rfl ⟨rfl, rfl, rfl, rfl, trivial⟩ (by decide) rfl (by decide) ?_
 clear hs; intro a9 J7 w ay hs bX
 obtain ⟨bg, bW, hm⟩ := bS hm
 replace ak := ak.mono ay; replace aj := aj.mono ay; replace ai := ai.mono ay
 refine oC (fi := []) (vs := [.agg (cL4 W V U T H M.length G R Q).toArray, .slice a9 2 2]) (ca := []) rfl ⟨rfl, rfl, trivial⟩ en21 (f21_ok _ _ _ _ _ _ _ _ bW hs ak ⟨_, bX, ⟨(cL0 ad ac O x.length X), (cL0 aa Z K C.length N), rfl, ⟨O, X, rfl, aj⟩, ⟨(cL0 aa Z K C.length N), [], rfl, ⟨K, N, rfl, ai⟩, rfl⟩⟩⟩) ?_
 clear hs; rintro _ w ⟨bD, ag, hs, rfl⟩
 refine asI rfl <| oN <| sQR <| cR <| mI rfl <| oV (x_neqD rfl rfl) rfl <| oN <| sK ?_
 by_cases a8 : ¬ (bg = 0)
 · rw [if_pos a8] at hm
   refine cIt rfl (dT a8) <| cQ <| cR <| mI rfl <| asI rfl <| asI rfl <| oN <| sK <| cw_ret <| seqK_r <| rK (rs := [.tmp 8, .tmp 9]) (vs := [.int .u8 0, iN bg]) (.inr rfl) rfl ⟨rfl, rfl, trivial⟩ ?_
   obtain rfl := oJ hm
   replace hs := hs.erase 0
   replace hs := hs.erase 0
   replace hs := hs.erase 0
   exact ⟨bD, (ay.trans ag), hs, rfl⟩
 rw [if_neg a8] at hm
 refine cIf rfl (dF a8) <| cw_skip <| sK ?_
 obtain ⟨bR, bm, bE⟩ := lb_some hm
 replace hm := bm; clear bm
 refine cJ (fun f ds w => ∃ (bI : Unit) (bO : Im), ds = [] ∧ Im.le bD bO ∧ bR = Sum.inl bI ∧ Sat bO (blk b5 26 (cL0 aa Z K C.length N) :: blk b3 26 (cL0 ad ac O x.length X) :: blk b1 56 (cL4 W V U T H M.length G R Q) :: F) w ∧ f 3 = iN x3 ∧ f 4 = pQ b1 0 ∧ f 5 = pQ b3 0 ∧ f 6 = pQ b5 0 ∧ f 8 = .int .u8 0 ∧ f 9 = iN 0) ?_ ?_
 · refine cQ <| cR <| oF (b := b3) (o := 0) fl26_2 rfl <| ld1 (k := 1) hs rfl rfl ty24 rfl <| oV (x_len sl24 rfl) rfl <| mI rfl <| oN <| sK <| cw_block ?_
   refine cL (S := fun k f ds w => ∃ (l : Int), ∃ (bd : Im), ds = [] ∧ Im.le bD bd ∧ f13_l0 x C k l = some bR ∧ Sat bd (blk b5 26 (cL0 aa Z K C.length N) :: blk b3 26 (cL0 ad ac O x.length X) :: blk b1 56 (cL4 W V U T H M.length G R Q) :: F) w ∧ f 3 = iN x3 ∧ f 4 = pQ b1 0 ∧ f 5 = pQ b3 0 ∧ f 6 = pQ b5 0 ∧ f 8 = .int .u8 0 ∧ f 9 = iN 0 ∧ f 26 = iN (x.length : Int) ∧ f 27 = iN l) ?_ (k := FUEL) ⟨0, bD, rfl, iR, hm, hs, rfl, rfl, rfl, rfl, rfl, rfl, rfl, rfl⟩
   clear hm hs
   rintro k f ds w ⟨l, bd, rfl, ap, hm, hs, a2, a0, aG, aF, aY, aW, aK, aw⟩
   rcases k with _ | k
   · unfold f13_l0 at hm; cases hm
   unfold f13_l0 at hm
   refine cQ <| cR <| oV (x_lss aw aK) rfl <| oN <| sQR ?_
   by_cases a7 : l < (x.length : Int)
   · rw [if_pos a7] at hm
     refine cIt rfl (dT a7) <| cw_skip <| sQR <| cw_block <| cQ <| cR <| mI aw <| asI rfl <| oN <| sQR ?_
     have aO := (iS hm).1
     replace hm := (iS hm).2
     have aN := (iS hm).1
     replace hm := (iS hm).2
     refine cD mixed rfl (fun f0 L f w => ∃ (Iq : Im), Im.le bd Iq ∧ f = frL [(30, 0, pQ b3 2), (31, 1, .slice O x.length X), (32, 2, iN l), (33, 3, .pointer (some (ea O (l.toNat * 1)))), (34, 4, iN (at' x l)), (35, 5, pQ b5 2), (36, 6, .slice K C.length N), (37, 7, iN l), (38, 8, .pointer (some (ea K (l.toNat * 1)))), (39, 9, iN (at' C l)), (40, 10, .bool (decide ((at' C l) < (at' x l))))] L f0 ∧ Sat Iq (blk b5 26 (cL0 aa Z K C.length N) :: blk b3 26 (cL0 ad ac O x.length X) :: blk b1 56 (cL4 W V U T H M.length G R Q) :: F) w) ⟨bd, iR, (frL_ff _).symm, hs.drew⟩ ⟨?_, ?_, ?_, ?_, ?_, ?_, ?_, ?_, ?_, ?_, ?_, trivial⟩ ?_
     all_goals clear hs
     · rintro L f w _ hL ⟨Iq, e, rfl, hs⟩
       refine oF (b := b3) (o := 0) fl26_2 aG ?_
       exact oN ⟨rfl, rfl, Iq, e, fS rfl rfl, hs⟩
     · rintro L f w ⟨aS, _⟩ hL ⟨Iq, e, rfl, hs⟩
       refine ld1 (k := 1) hs rfl (fG rfl aS) ty24 rfl ?_
       exact oN ⟨rfl, rfl, Iq, e, fS rfl rfl, hs⟩
     · rintro L f w _ hL ⟨Iq, e, rfl, hs⟩
       refine mI rfl ?_
       exact oN ⟨rfl, rfl, Iq, e, fS rfl rfl, hs⟩
     · rintro L f w ⟨aR, aq, _⟩ hL ⟨Iq, e, rfl, hs⟩
       replace aj := aj.mono ((ag.trans ap).trans e)
       refine oI (i := l) sl24 ty3 (fG rfl aR) (fG rfl aq) aO.1 aO.2 (Rs.some aj (by have := aO; omega)) ?_
       exact oN ⟨rfl, rfl, Iq, e, fS rfl rfl, hs⟩
     · rintro L f w ⟨aQ, _⟩ hL ⟨Iq, e, rfl, hs⟩
       replace aj := aj.mono ((ag.trans ap).trans e)
       refine oLR (p := l.toNat * 1) (vs := [iN (at' x l)]) (v := iN (at' x l)) hs aj (fG rfl aQ) ty3 (flat_at (enc := e64) (sz := 1) (fun _ => rfl) x l aO.1 aO.2 0 1 (by decide)) rfl rfl ?_
       exact oN ⟨rfl, rfl, Iq, e, fS rfl rfl, hs⟩
     · rintro L f w _ hL ⟨Iq, e, rfl, hs⟩
       refine oF (b := b5) (o := 0) fl26_2 aF ?_
       exact oN ⟨rfl, rfl, Iq, e, fS rfl rfl, hs⟩
     · rintro L f w ⟨aC, _⟩ hL ⟨Iq, e, rfl, hs⟩
       refine ld1 (k := 0) hs rfl (fG rfl aC) ty24 rfl ?_
       exact oN ⟨rfl, rfl, Iq, e, fS rfl rfl, hs⟩
     · rintro L f w _ hL ⟨Iq, e, rfl, hs⟩
       refine mI rfl ?_
       exact oN ⟨rfl, rfl, Iq, e, fS rfl rfl, hs⟩
     · rintro L f w ⟨bc, bv, _⟩ hL ⟨Iq, e, rfl, hs⟩
       replace ai := ai.mono ((ag.trans ap).trans e)
       refine oI (i := l) sl24 ty3 (fG rfl bc) (fG rfl bv) aN.1 aN.2 (Rs.some ai (by have := aN; omega)) ?_
       exact oN ⟨rfl, rfl, Iq, e, fS rfl rfl, hs⟩
     · rintro L f w ⟨bu, _⟩ hL ⟨Iq, e, rfl, hs⟩
       replace ai := ai.mono ((ag.trans ap).trans e)
       refine oLR (p := l.toNat * 1) (vs := [iN (at' C l)]) (v := iN (at' C l)) hs ai (fG rfl bu) ty3 (flat_at (enc := e64) (sz := 1) (fun _ => rfl) C l aN.1 aN.2 0 1 (by decide)) rfl rfl ?_
       exact oN ⟨rfl, rfl, Iq, e, fS rfl rfl, hs⟩
     · rintro L f w ⟨aP, bt, _⟩ hL ⟨Iq, e, rfl, hs⟩
       refine oV (x_gtr (fG rfl aP) (fG rfl bt)) rfl ?_
       exact oN ⟨rfl, rfl, Iq, e, fS rfl rfl, hs⟩
     rintro L f w hall ⟨b0, bq, rfl, hs⟩
     rw [frL_tt _ rfl hall]
     refine sK ?_
     by_cases a6 : (at' C l) < (at' x l)
     · rw [if_pos a6] at hm
       refine cIt rfl (dT a6) <| cQ <| cR <| asI rfl <| asI rfl <| oN <| sK <| cw_ret <| blockK_r <| seqK_r <| loopK_r <| blockK_r ?_
       refine joinK_r <| rK (rs := [.tmp 8, .tmp 9]) (vs := [.int .u8 0, iN 2]) (.inr rfl) rfl ⟨rfl, rfl, trivial⟩ ?_
       replace hm := lret hm bE
       obtain rfl := oJ hm
       replace hs := hs.erase 0
       replace hs := hs.erase 0
       replace hs := hs.erase 0
       exact ⟨b0, (((ay.trans ag).trans ap).trans bq), hs, rfl⟩
     rw [if_neg a6] at hm
     refine cIf rfl (dF a6) <| cw_skip <| blockK_n <| sK <| cR <| oV (x_add aw rfl) rfl <| mI rfl <| oN ?_
     exact lN ⟨k, Nat.lt_succ_self k, w64 (l + 1), b0, rfl, (ap.trans bq), hm, hs, a2, a0, aG, aF, aY, aW, aK, rfl⟩
   rw [if_neg a7] at hm
   refine cIf rfl (dF a7) <| cw_exit <| seqK_x <| loopK_x <| blockK_hit ?_
   obtain rfl := oJ hm
   refine jN ⟨(), bd, rfl, ap, rfl, hs, a2, a0, aG, aF, aY, aW⟩
 clear hm hs
 rintro f ds w ⟨bI, bO, rfl, ao, rfl, hs, aJ, av, bk, bj, bi, bh⟩
 replace hm := lexit rfl bE
 refine cQ <| cQ <| cR <| mI aJ <| ow_buildSlice (vp := [(0, iN x3)]) (cs := [iN x3]) hs sl24 ty3 rfl ⟨rfl, rfl, trivial⟩ (by decide) rfl (by decide) ?_
 clear hs; intro bY b8 w an hs bs
 replace bs : Rs b8 1 bY [x3].length 1 ([x3].flatMap e64) := bs
 obtain ⟨bA, bV, hm⟩ := bS hm
 refine oC (fi := []) (vs := (cL0 0 8 bY ([x3].length) 1)) (ca := []) rfl ⟨rfl, rfl, rfl, trivial⟩ en26 (f26_ok _ _ _ bV hs bs) ?_
 clear hs; rintro _ w ⟨bM, am, hs, rfl⟩
 refine oV (x_not (b := bA) rfl) rfl <| oN <| sK ?_
 by_cases a5 : (!bA) = true
 · rw [if_pos a5] at hm
   refine cIt rfl a5 <| cQ <| cR <| asI rfl <| asI rfl <| oN <| sK <| cw_ret <| seqK_r <| rK (rs := [.tmp 8, .tmp 9]) (vs := [.int .u8 0, iN 2]) (.inr rfl) rfl ⟨rfl, rfl, trivial⟩ ?_
   obtain rfl := oJ hm
   replace hs := hs.erase 0
   replace hs := hs.erase 0
   replace hs := hs.erase 0
   exact ⟨bM, ((((ay.trans ag).trans ao).trans an).trans am), hs, rfl⟩
 rw [if_neg a5] at hm
 refine cIf rfl (bF a5) <| cw_skip <| sQR ?_
 obtain ⟨D, bU, hm⟩ := bS hm
 obtain ⟨ah, bT, hm⟩ := bS hm
 refine cD mixed rfl (fun f0 L f w => ∃ (t : Option Addr) (B : Nat) (s : Option Addr) (A : Nat) (Iq : Im), Im.le bM Iq ∧ f = frL [(46, 0, .agg (cL4 W V U T H M.length G R Q).toArray), (47, 1, .agg (cL0 ad ac O x.length X).toArray), (48, 2, .slice t D.length B), (49, 3, .agg (cL4 W V U T H M.length G R Q).toArray), (50, 4, .agg (cL0 aa Z K C.length N).toArray), (51, 5, .slice s ah.length A), (12, 6, .slice t D.length B), (13, 7, .slice s ah.length A)] L f0 ∧ Sat Iq (blk b5 26 (cL0 aa Z K C.length N) :: blk b3 26 (cL0 ad ac O x.length X) :: blk b1 56 (cL4 W V U T H M.length G R Q) :: F) w ∧ (L 2 = true → Rs Iq 1 t D.length B (D.flatMap e64)) ∧ (L 5 = true → Rs Iq 1 s ah.length A (ah.flatMap e64)) ∧ (L 6 = true → L 2 = true) ∧ (L 7 = true → L 5 = true)) ⟨none, 0, none, 0, bM, iR, (frL_ff _).symm, hs.drew, (fun h => by cases h), (fun h => by cases h), (fun h => by cases h), (fun h => by cases h)⟩ ⟨?_, ?_, ?_, ?_, ?_, ?_, ?_, ?_, trivial⟩ ?_
 all_goals clear hs
 · rintro L f w _ hL ⟨t, B, s, A, Iq, e, rfl, hs, y, E, af, ae⟩
   refine oL (k := 2) (vs := (cL4 W V U T H M.length G R Q)) (v := .agg (cL4 W V U T H M.length G R Q).toArray) hs rfl av ty56 rfl rfl rfl ?_
   exact oN ⟨rfl, rfl, t, B, s, A, Iq, e, fS rfl rfl, hs, (fun h => y h), (fun h => E h), af, ae⟩
 · rintro L f w _ hL ⟨t, B, s, A, Iq, e, rfl, hs, y, E, af, ae⟩
   refine oL (k := 1) (vs := (cL0 ad ac O x.length X)) (v := .agg (cL0 ad ac O x.length X).toArray) hs rfl bk ty26 rfl rfl rfl ?_
   exact oN ⟨rfl, rfl, t, B, s, A, Iq, e, fS rfl rfl, hs, (fun h => y h), (fun h => E h), af, ae⟩
 · rintro L f w ⟨aS, aR, _⟩ hL ⟨t, B, s, A, Iq, e, rfl, hs, y, E, af, ae⟩
   replace ak := ak.mono ((((ag.trans ao).trans an).trans am).trans e); replace aj := aj.mono ((((ag.trans ao).trans an).trans am).trans e)
   refine oC (fi := []) (vs := [.agg (cL4 W V U T H M.length G R Q).toArray, .agg (cL0 ad ac O x.length X).toArray]) (ca := []) rfl ⟨(fG rfl aS), (fG rfl aR), trivial⟩ en22 (f22_ok _ _ _ _ _ _ _ _ _ _ bU hs ak aj) ?_
   clear hs; rintro _ w ⟨b7, t, B, bp, hs, rfl, hRz74_0⟩
   exact oN ⟨rfl, rfl, t, B, s, A, b7, (e.trans bp), (Eq.trans (fSG (i := 2) rfl rfl) (Eq.trans (fD (u := undef) (i := 6) (v := .slice t D.length B) (L := setL L 2) (show L 6 = false from pF af hL)) (rfl))), hs, (fun _ => hRz74_0), (fun h => (E h).mono bp), (fun _ => rfl), ae⟩
 · rintro L f w _ hL ⟨t, B, s, A, Iq, e, rfl, hs, y, E, af, ae⟩
   refine oL (k := 2) (vs := (cL4 W V U T H M.length G R Q)) (v := .agg (cL4 W V U T H M.length G R Q).toArray) hs rfl av ty56 rfl rfl rfl ?_
   exact oN ⟨rfl, rfl, t, B, s, A, Iq, e, fS rfl rfl, hs, (fun h => y h), (fun h => E h), af, ae⟩
 · rintro L f w _ hL ⟨t, B, s, A, Iq, e, rfl, hs, y, E, af, ae⟩
   refine oL (k := 0) (vs := (cL0 aa Z K C.length N)) (v := .agg (cL0 aa Z K C.length N).toArray) hs rfl bj ty26 rfl rfl rfl ?_
   exact oN ⟨rfl, rfl, t, B, s, A, Iq, e, fS rfl rfl, hs, (fun h => y h), (fun h => E h), af, ae⟩
 · rintro L f w ⟨aQ, aP, aq, _⟩ hL ⟨t, B, s, A, Iq, e, rfl, hs, y, E, af, ae⟩
   have hRz74_0 := y aq
   replace ak := ak.mono ((((ag.trans ao).trans an).trans am).trans e); replace ai := ai.mono ((((ag.trans ao).trans an).trans am).trans e)
   refine oC (fi := []) (vs := [.agg (cL4 W V U T H M.length G R Q).toArray, .agg (cL0 aa Z K C.length N).toArray]) (ca := []) rfl ⟨(fG rfl aQ), (fG rfl aP), trivial⟩ en22 (f22_ok _ _ _ _ _ _ _ _ _ _ bT hs ak ai) ?_
   clear hs; rintro _ w ⟨b6, s, A, bo, hs, rfl, hRz79_0⟩
   exact oN ⟨rfl, rfl, t, B, s, A, b6, (e.trans bo), (Eq.trans (fSG (i := 5) rfl rfl) (Eq.trans (fD (u := undef) (i := 7) (v := .slice s ah.length A) (L := setL L 5) (show L 7 = false from pF ae hL)) (rfl))), hs, (fun h => (y h).mono bo), (fun _ => hRz79_0), af, (fun _ => rfl)⟩
 · rintro L f w ⟨aq, aC, aS, aR, _, _⟩ hL ⟨t, B, s, A, Iq, e, rfl, hs, y, E, af, ae⟩
   have hRz74_0 := y aq
   have hRz79_0 := E aC
   refine asS (fG rfl aq) ?_
   exact oN ⟨rfl, rfl, t, B, s, A, Iq, e, fS rfl rfl, hs, (fun h => y h), (fun h => E h), (fun _ => aq), ae⟩
 · rintro L f w ⟨aC, bc, aS, aR, aq, aQ, aP, _, _, _⟩ hL ⟨t, B, s, A, Iq, e, rfl, hs, y, E, af, ae⟩
   have hRz74_0 := y aq
   have hRz79_0 := E aC
   refine asS (fG rfl aC) ?_
   exact oN ⟨rfl, rfl, t, B, s, A, Iq, e, fS rfl rfl, hs, (fun h => y h), (fun h => E h), af, (fun _ => aC)⟩
 rintro L f w hall ⟨t, B, s, A, bN, bn, rfl, hs, hRz74_0, hRz79_0, _, _⟩
 rw [frL_tt _ rfl hall]
 replace hRz74_0 := hRz74_0 (hall 2 (nLe rfl))
 replace hRz79_0 := hRz79_0 (hall 5 (nLe rfl))
 refine sQR <| cR <| mS rfl <| oV (x_len sl24 rfl) rfl ?_
 have br := (iS hm).1
 replace hm := (iS hm).2
 refine ow_makeT (enc := enc99) (z := ((0, 0) : Int × Int)) (i := (D.length : Int)) (j := (D.length : Int)) hs sl101 ty99 el99 rfl rfl rfl rfl br.1 br.2.1 br.2.2 (by decide) ?_
 clear hs; intro ar w hs
 refine asS rfl <| oN <| sK ?_
 obtain ⟨aD, bm, bK⟩ := bS hm
 replace hm := bm; clear bm
 refine cJ (fun f ds w => ∃ (bz : Im), ds = [] ∧ Im.le bN bz ∧ Sat bz (osl 99 2 ar (List.replicate (D.length : Int).toNat ((0, 0) : Int × Int)).length ((D.length : Int).toNat) (aD.flatMap enc99) :: blk b5 26 (cL0 aa Z K C.length N) :: blk b3 26 (cL0 ad ac O x.length X) :: blk b1 56 (cL4 W V U T H M.length G R Q) :: F) w ∧ f 3 = iN x3 ∧ f 4 = pQ b1 0 ∧ f 8 = .int .u8 0 ∧ f 9 = iN 0 ∧ f 14 = .slice ar ((List.replicate (D.length : Int).toNat ((0, 0) : Int × Int)).length) ((D.length : Int).toNat)) ?_ ?_
 · refine cQ <| cR <| mS rfl <| oV (x_len sl101 rfl) rfl <| mI rfl <| oN <| sK <| cw_block ?_
   refine cL (S := fun k f ds w => ∃ (d : Int) (Y : List (Int × Int)), ∃ (aE : Im), ds = [] ∧ Im.le bN aE ∧ f13_l1 D ah k d Y = some aD ∧ Sat aE (osl 99 2 ar (List.replicate (D.length : Int).toNat ((0, 0) : Int × Int)).length ((D.length : Int).toNat) (Y.flatMap enc99) :: blk b5 26 (cL0 aa Z K C.length N) :: blk b3 26 (cL0 ad ac O x.length X) :: blk b1 56 (cL4 W V U T H M.length G R Q) :: F) w ∧ f 3 = iN x3 ∧ f 4 = pQ b1 0 ∧ f 8 = .int .u8 0 ∧ f 9 = iN 0 ∧ f 12 = .slice t D.length B ∧ f 13 = .slice s ah.length A ∧ f 14 = .slice ar ((List.replicate (D.length : Int).toNat ((0, 0) : Int × Int)).length) ((D.length : Int).toNat) ∧ f 56 = iN ((List.replicate (D.length : Int).toNat ((0, 0) : Int × Int)).length : Int) ∧ f 57 = iN d) ?_ (k := FUEL) ⟨0, List.replicate (D.length : Int).toNat ((0, 0) : Int × Int), bN, rfl, iR, hm, hs, aJ, av, bi, bh, rfl, rfl, rfl, rfl, rfl⟩
   clear hm hs
   rintro k f ds w ⟨d, Y, aE, rfl, al, hm, hs, a1, aZ, aX, aV, aM, aL, ax, aI, au⟩
   rcases k with _ | k
   · unfold f13_l1 at hm; cases hm
   unfold f13_l1 at hm
   refine cQ <| cR <| oV (x_lss au aI) rfl <| oN <| sQR ?_
   by_cases aH : d < ((List.replicate (D.length : Int).toNat ((0, 0) : Int × Int)).length : Int)
   · rw [if_pos aH] at hm
     refine cIt rfl (dT aH) <| cw_skip <| sQR <| cw_block <| cQ <| cR <| mI au <| asI rfl <| oN <| sK ?_
     have aB := (iS hm).1
     replace hm := (iS hm).2
     have aA := (iS hm).1
     replace hm := (iS hm).2
     have az := (iS hm).1
     replace hm := (iS hm).2
     refine cD mixed rfl (fun f0 L f w => ∃ (Iq : Im), Im.le aE Iq ∧ f = frL [(60, 0, .slice ar ((List.replicate (D.length : Int).toNat ((0, 0) : Int × Int)).length) ((D.length : Int).toNat)), (61, 1, iN d), (62, 2, .slice t D.length B), (63, 3, iN d), (64, 4, .pointer (some (ea t (d.toNat * 1)))), (65, 5, iN (at' D d)), (66, 6, .slice s ah.length A), (67, 7, iN d), (68, 8, .pointer (some (ea s (d.toNat * 1)))), (69, 9, iN (at' ah d)), (70, 10, .agg #[iN (at' D d), iN (at' ah d)]), (71, 11, .pointer (some (ea ar (d.toNat * 2))))] L f0 ∧ Sat Iq (rL [(12, osl 99 2 ar (List.replicate (D.length : Int).toNat ((0, 0) : Int × Int)).length ((D.length : Int).toNat) ((Y.set d.toNat ((at' D d), (at' ah d))).flatMap enc99))] (osl 99 2 ar (List.replicate (D.length : Int).toNat ((0, 0) : Int × Int)).length ((D.length : Int).toNat) (Y.flatMap enc99)) L :: blk b5 26 (cL0 aa Z K C.length N) :: blk b3 26 (cL0 ad ac O x.length X) :: blk b1 56 (cL4 W V U T H M.length G R Q) :: F) w ∧ (L 12 = true → L 11 = true)) ⟨aE, iR, (frL_ff _).symm, hs.drew, (fun h => by cases h)⟩ ⟨?_, ?_, ?_, ?_, ?_, ?_, ?_, ?_, ?_, ?_, ?_, ?_, ?_, trivial⟩ ?_
     all_goals clear hs
     · rintro L f w _ hL ⟨Iq, e, rfl, hs, q⟩
       refine mS ax ?_
       exact oN ⟨rfl, rfl, Iq, e, fS rfl rfl, hs, q⟩
     · rintro L f w _ hL ⟨Iq, e, rfl, hs, q⟩
       refine mI rfl ?_
       exact oN ⟨rfl, rfl, Iq, e, fS rfl rfl, hs, q⟩
     · rintro L f w _ hL ⟨Iq, e, rfl, hs, q⟩
       refine mS aM ?_
       exact oN ⟨rfl, rfl, Iq, e, fS rfl rfl, hs, q⟩
     · rintro L f w _ hL ⟨Iq, e, rfl, hs, q⟩
       refine mI rfl ?_
       exact oN ⟨rfl, rfl, Iq, e, fS rfl rfl, hs, q⟩
     · rintro L f w ⟨aq, aQ, _⟩ hL ⟨Iq, e, rfl, hs, q⟩
       replace hRz74_0 := hRz74_0.mono (al.trans e)
       refine oI (i := d) sl24 ty3 (fG rfl aq) (fG rfl aQ) aB.1 aB.2 (Rs.some hRz74_0 (by have := aB; omega)) ?_
       exact oN ⟨rfl, rfl, Iq, e, fS rfl rfl, hs, q⟩
     · rintro L f w ⟨aP, _⟩ hL ⟨Iq, e, rfl, hs, q⟩
       replace hRz74_0 := hRz74_0.mono (al.trans e)
       refine oLR (p := d.toNat * 1) (vs := [iN (at' D d)]) (v := iN (at' D d)) hs hRz74_0 (fG rfl aP) ty3 (flat_at (enc := e64) (sz := 1) (fun _ => rfl) D d aB.1 aB.2 0 1 (by decide)) rfl rfl ?_
       exact oN ⟨rfl, rfl, Iq, e, fS rfl rfl, hs, q⟩
     · rintro L f w _ hL ⟨Iq, e, rfl, hs, q⟩
       refine mS aL ?_
       exact oN ⟨rfl, rfl, Iq, e, fS rfl rfl, hs, q⟩
     · rintro L f w _ hL ⟨Iq, e, rfl, hs, q⟩
       refine mI rfl ?_
       exact oN ⟨rfl, rfl, Iq, e, fS rfl rfl, hs, q⟩
     · rintro L f w ⟨bc, bv, _⟩ hL ⟨Iq, e, rfl, hs, q⟩
       replace hRz79_0 := hRz79_0.mono (al.trans e)
       refine oI (i := d) sl24 ty3 (fG rfl bc) (fG rfl bv) aA.1 aA.2 (Rs.some hRz79_0 (by have := aA; omega)) ?_
       exact oN ⟨rfl, rfl, Iq, e, fS rfl rfl, hs, q⟩
     · rintro L f w ⟨bu, _⟩ hL ⟨Iq, e, rfl, hs, q⟩
       replace hRz79_0 := hRz79_0.mono (al.trans e)
       refine oLR (p := d.toNat * 1) (vs := [iN (at' ah d)]) (v := iN (at' ah d)) hs hRz79_0 (fG rfl bu) ty3 (flat_at (enc := e64) (sz := 1) (fun _ => rfl) ah d aA.1 aA.2 0 1 (by decide)) rfl rfl ?_
       exact oN ⟨rfl, rfl, Iq, e, fS rfl rfl, hs, q⟩
     · rintro L f w ⟨aC, bt, _⟩ hL ⟨Iq, e, rfl, hs, q⟩
       refine ow_buildA (vp := [(0, iN (at' D d)), (1, iN (at' ah d))]) (cs := [iN (at' D d), iN (at' ah d)]) ar99 ty3 ty99 ⟨rfl, (fG rfl aC), rfl, (fG rfl bt), trivial⟩ rfl ?_
       exact oN ⟨rfl, rfl, Iq, e, fS rfl rfl, hs, q⟩
     · rintro L f w ⟨aS, aR, _, _, aq, aQ, aP, aC, bc, bv, bu, bt, bH, _⟩ hL ⟨Iq, e, rfl, hs, q⟩
       replace hs := hs.eqv (k := 0) rfl ((rL_f (show L 12 = false from pF q hL) (rL_n)))
       have b4 := osl_n (k := 0) hs rfl (fun _ => rfl) (by decide)
       refine oI (i := d) sl101 ty99 (fG rfl aS) (fG rfl aR) az.1 (by have := az; omega) (osl_some hs (k := 0) rfl (by have := az; omega)) ?_
       replace hs := hs.eqv (k := 0) rfl (Eq.symm (a := rL [(12, osl 99 2 ar (List.replicate (D.length : Int).toNat ((0, 0) : Int × Int)).length ((D.length : Int).toNat) ((Y.set d.toNat ((at' D d), (at' ah d))).flatMap enc99))] (osl 99 2 ar (List.replicate (D.length : Int).toNat ((0, 0) : Int × Int)).length ((D.length : Int).toNat) (Y.flatMap enc99)) (setL L 11)) (((rL_f (L := setL L 11) (show L 12 = false from pF q hL) (rL_n)))))
       exact oN ⟨rfl, rfl, Iq, e, fS rfl rfl, hs, (fun _ => rfl)⟩
     · rintro L f w ⟨bG, bH, aS, aR, aq, aQ, aP, aC, bc, bv, bu, bt, _, _⟩ hL ⟨Iq, e, rfl, hs, q⟩
       replace hs := hs.eqv (k := 0) rfl ((rL_f hL (rL_n)))
       refine ow_storeT (k := 0) (enc := enc99) (xx := ((at' D d), (at' ah d))) (i := d) (m := (List.replicate (D.length : Int).toNat ((0, 0) : Int × Int)).length) (vs := [iN (at' D d), iN (at' ah d)]) hs rfl (fG rfl bG) (fG rfl bH) ty99 rfl rfl rfl (fun _ => rfl) (by decide) az.1 az.2 ?_
       clear hs; intro w hs
       exact oN ⟨rfl, rfl, Iq, e, frL_no rfl, hs, (fun _ => bG)⟩
     rintro L f w hall ⟨b2, bC, rfl, hs, _⟩
     rw [frL_tt _ rfl hall]
     replace hs := hs.eqv (k := 0) rfl (rL_t (hall 12 (nLe rfl)))
     refine blockK_n <| sK <| cR <| oV (x_add au rfl) rfl <| mI rfl <| oN ?_
     exact lN ⟨k, Nat.lt_succ_self k, w64 (d + 1), Y.set d.toNat ((at' D d), (at' ah d)), b2, rfl, (al.trans bC), hm, hs, a1, aZ, aX, aV, aM, aL, ax, aI, rfl⟩
   rw [if_neg aH] at hm
   refine cIf rfl (dF aH) <| cw_exit <| seqK_x <| loopK_x <| blockK_hit ?_
   obtain rfl := oJ hm
   refine jN ⟨aE, rfl, al, hs, a1, aZ, aX, aV, ax⟩
 clear hm hs
 rintro f ds w ⟨bz, rfl, a4, hs, bb, ba, bQ, bP, aU⟩
 replace hm := bK
 refine cQ <| cR <| oL (k := 3) (vs := (cL4 W V U T H M.length G R Q)) (v := .agg (cL4 W V U T H M.length G R Q).toArray) hs rfl ba ty56 rfl rfl rfl <| mS aU <| mI bb ?_
 have bl := osl_n (k := 0) hs rfl (fun _ => rfl) (by decide)
 replace hs := hs.eqv (k := 0) rfl (by rw [bl])
 obtain ⟨b9, a3, bL, hs⟩ := hs.freezeO
 obtain ⟨bf, bJ, hm⟩ := bS hm
 replace ak := ak.mono ((((((ag.trans ao).trans an).trans am).trans bn).trans a4).trans a3)
 refine oC (fi := []) (vs := [.agg (cL4 W V U T H M.length G R Q).toArray, .slice ar aD.length ((D.length : Int).toNat), iN x3]) (ca := []) rfl ⟨rfl, (slen (oa := ar) (m := (List.replicate (D.length : Int).toNat ((0, 0) : Int × Int)).length) (m' := aD.length) (c := (D.length : Int).toNat) rfl bl), rfl, trivial⟩ en27 (f27_ok _ _ _ _ _ _ _ _ _ bJ hs ak bL) ?_
 clear hs; rintro _ w ⟨bZ, bB, hs, rfl⟩
 refine asI rfl <| asI rfl <| oN <| sK <| cw_ret <| rK (rs := [.tmp 8, .tmp 9]) (vs := [.int .u8 bf, iN 0]) (.inr rfl) rfl ⟨rfl, rfl, trivial⟩ ?_
 obtain rfl := oJ hm
 replace hs := hs.erase 0
 replace hs := hs.erase 0
 replace hs := hs.erase 0
 exact ⟨bZ, ((((((((ay.trans ag).trans ao).trans an).trans am).trans bn).trans a4).trans a3).trans bB), hs, rfl⟩
def f116_m (d : Int) (c : Int) : Option (Int × Int) :=
  some (IntKind.u64.wrap ((IntKind.u64.wrap ((IntKind.u64.wrap ((d / 4294967296) * (c / 4294967296))) + ((IntKind.u64.wrap ((IntKind.u64.wrap ((d / 4294967296) * (bitsOp .and .u64 c 4294967295))) + ((IntKind.u64.wrap ((bitsOp .and .u64 d 4294967295) * (bitsOp .and .u64 c 4294967295))) / 4294967296))) / 4294967296))) + ((IntKind.u64.wrap ((bitsOp .and .u64 (IntKind.u64.wrap ((IntKind.u64.wrap ((d / 4294967296) * (bitsOp .and .u64 c 4294967295))) + ((IntKind.u64.wrap ((bitsOp .and .u64 d 4294967295) * (bitsOp .and .u64 c 4294967295))) / 4294967296))) 4294967295) + (IntKind.u64.wrap ((bitsOp .and .u64 d 4294967295) * (c / 4294967296))))) / 4294967296)), IntKind.u64.wrap (d * c))
theorem f116_ok (d : Int) (c : Int) {r : Int × Int} (hm : f116_m d c = some r)  {I : Im} {F : List HP} {w : World} (hs : Sat I (F) w)  :
    CV P 116 [.int .u64 d, .int .u64 c] w fun v w' => ∃ (J : Im), Im.le I J ∧ Sat J (F) w' ∧ v = .tuple #[.int .u64 r.1, .int .u64 r.2] := by
 unfold f116_m at hm
 refine cv_of (n := 51) Proofs.Tryz.func116 rfl rfl (nLe rfl) <| cQ <| cR <| asI rfl <| asI rfl <| oN <| sQR <| cR <| mI rfl <| oV (x_and (k := .u64) (a := d) (b := 4294967295) rfl rfl) rfl <| asI rfl ?_
 refine oN <| sQR <| cR <| mI rfl <| oV (x_shrL (k := .u64) (a := d) (b := 32) (m := 4294967296) rfl rfl (by decide) (by decide)) rfl <| asI rfl <| oN <| sQR <| cR <| mI rfl ?_
 refine oV (x_and (k := .u64) (a := c) (b := 4294967295) rfl rfl) rfl <| asI rfl <| oN <| sQR <| cR <| mI rfl <| oV (x_shrL (k := .u64) (a := c) (b := 32) (m := 4294967296) rfl rfl (by decide) (by decide)) rfl <| asI rfl <| oN <| sQR ?_
 refine cR <| mI rfl <| mI rfl <| oV (x_mul rfl rfl) rfl <| asI rfl <| oN <| sQR <| cR <| mI rfl <| mI rfl <| oV (x_mul rfl rfl) rfl ?_
 refine mI rfl <| oV (x_shrL (k := .u64) (a := (IntKind.u64.wrap ((bitsOp .and .u64 d 4294967295) * (bitsOp .and .u64 c 4294967295)))) (b := 32) (m := 4294967296) rfl rfl (by decide) (by decide)) rfl <| oV (x_add rfl rfl) rfl <| asI rfl <| oN <| sQR <| cR <| mI rfl <| oV (x_and (k := .u64) (a := (IntKind.u64.wrap ((IntKind.u64.wrap ((d / 4294967296) * (bitsOp .and .u64 c 4294967295))) + ((IntKind.u64.wrap ((bitsOp .and .u64 d 4294967295) * (bitsOp .and .u64 c 4294967295))) / 4294967296)))) (b := 4294967295) rfl rfl) rfl <| asI rfl <| oN ?_
 refine sQR <| cR <| mI rfl <| oV (x_shrL (k := .u64) (a := (IntKind.u64.wrap ((IntKind.u64.wrap ((d / 4294967296) * (bitsOp .and .u64 c 4294967295))) + ((IntKind.u64.wrap ((bitsOp .and .u64 d 4294967295) * (bitsOp .and .u64 c 4294967295))) / 4294967296)))) (b := 32) (m := 4294967296) rfl rfl (by decide) (by decide)) rfl <| asI rfl <| oN <| sQR <| cR <| mI rfl <| mI rfl ?_
 refine mI rfl <| oV (x_mul rfl rfl) rfl <| oV (x_add rfl rfl) rfl <| asI rfl <| oN <| sQR <| cR <| mI rfl <| mI rfl <| oV (x_mul rfl rfl) rfl <| mI rfl ?_
 refine oV (x_add rfl rfl) rfl <| mI rfl <| oV (x_shrL (k := .u64) (a := (IntKind.u64.wrap ((bitsOp .and .u64 (IntKind.u64.wrap ((IntKind.u64.wrap ((d / 4294967296) * (bitsOp .and .u64 c 4294967295))) + ((IntKind.u64.wrap ((bitsOp .and .u64 d 4294967295) * (bitsOp .and .u64 c 4294967295))) / 4294967296))) 4294967295) + (IntKind.u64.wrap ((bitsOp .and .u64 d 4294967295) * (c / 4294967296)))))) (b := 32) (m := 4294967296) rfl rfl (by decide) (by decide)) rfl <| oV (x_add rfl rfl) rfl <| asI rfl <| oN <| sQR <| cR <| mI rfl <| mI rfl <| oV (x_mul rfl rfl) rfl ?_
 refine asI rfl <| oN <| sK <| cw_ret <| rK (rs := [.tmp 4, .tmp 5]) (vs := [.int .u64 (IntKind.u64.wrap ((IntKind.u64.wrap ((IntKind.u64.wrap ((d / 4294967296) * (c / 4294967296))) + ((IntKind.u64.wrap ((IntKind.u64.wrap ((d / 4294967296) * (bitsOp .and .u64 c 4294967295))) + ((IntKind.u64.wrap ((bitsOp .and .u64 d 4294967295) * (bitsOp .and .u64 c 4294967295))) / 4294967296))) / 4294967296))) + ((IntKind.u64.wrap ((bitsOp .and .u64 (IntKind.u64.wrap ((IntKind.u64.wrap ((d / 4294967296) * (bitsOp .and .u64 c 4294967295))) + ((IntKind.u64.wrap ((bitsOp .and .u64 d 4294967295) * (bitsOp .and .u64 c 4294967295))) / 4294967296))) 4294967295) + (IntKind.u64.wrap ((bitsOp .and .u64 d 4294967295) * (c / 4294967296))))) / 4294967296))), .int .u64 (IntKind.u64.wrap (d * c))]) (.inr rfl) rfl ⟨rfl, rfl, trivial⟩ ?_
 obtain rfl := oJ hm
 exact ⟨I, iR, hs, rfl⟩
def f81_m (c : Int) (b : Int) : Option (Int × Int) :=
  ((f116_m c b).bind fun a => some (a.1, a.2))
theorem f81_ok (c : Int) (b : Int) {r : Int × Int} (hm : f81_m c b = some r)  {I : Im} {F : List HP} {w : World} (hs : Sat I (F) w)  :
    CV P 81 [.int .u64 c, .int .u64 b] w fun v w' => ∃ (J : Im), Im.le I J ∧ Sat J (F) w' ∧ v = .tuple #[.int .u64 r.1, .int .u64 r.2] := by
 unfold f81_m at hm
 refine cv_of (n := 30) Proofs.Tryz.func81 rfl rfl (nLe rfl) <| cQ <| cR <| asI rfl <| asI rfl <| oN <| sQR <| cw_cond_f rfl <| cw_skip <| sQR ?_
 refine cR <| mI rfl <| mI rfl ?_
 obtain ⟨a, e, hm⟩ := bS hm
 refine oC (fi := []) (vs := [.int .u64 c, .int .u64 b]) (ca := []) rfl ⟨rfl, rfl, trivial⟩ en116 (f116_ok _ _ e hs) ?_
 clear hs; rintro _ w ⟨f, d, hs, rfl⟩
 refine oV (xM (v := .tuple #[.int .u64 a.1, .int .u64 a.2]) rfl) rfl <| oV (xE (v := .int .u64 a.1) rfl rfl) rfl <| oV (xE (v := .int .u64 a.2) rfl rfl) rfl <| asI rfl <| asI rfl <| oN <| sQR <| cR <| mI rfl <| mI rfl <| asI rfl ?_
 refine asI rfl <| oN <| sK <| cw_ret <| rK (rs := [.tmp 4, .tmp 5]) (vs := [.int .u64 a.1, .int .u64 a.2]) (.inr rfl) rfl ⟨rfl, rfl, trivial⟩ ?_
 obtain rfl := oJ hm
 exact ⟨f, d, hs, rfl⟩
def f46_l0 (e : List Bool) (d : Int × Int) : Nat → Option Unit
  | 0 => none
  | k + 1 => (if (e.length : Int) < ((List.take 0 (List.replicate (w64 (d.2)).toNat (false : Bool)) ++ e ++ (List.replicate (w64 (d.2)).toNat (false : Bool)).drop (0 + e.length)).length : Int) then none else some ())
def f46_m (e : List Bool) (G : Int) : Option (List Bool) :=
  (if G < 0 then none else ((f81_m (IntKind.u64.wrap ((e.length : Int))) (IntKind.u64.wrap (G))).bind fun d => ((if 0 < d.1 then some true else some (decide (9223372036854775807 < d.2))).bind fun b7 => (if b7 = true then none else (if 0 ≤ (w64 (d.2)) ∧ (w64 (d.2)) ≤ (w64 (d.2)) ∧ (w64 (d.2)) ≤ 1099511627776 then (if 0 + e.length ≤ (List.replicate (w64 (d.2)).toNat (false : Bool)).length then ((f46_l0 e d FUEL ).bind fun (W : Unit) => some (List.take 0 (List.replicate (w64 (d.2)).toNat (false : Bool)) ++ e ++ (List.replicate (w64 (d.2)).toNat (false : Bool)).drop (0 + e.length))) else none) else none)))))
theorem f46_ok (e : List Bool) (G : Int) {r : List Bool} (hm : f46_m e G = some r) {T : Option Addr} {R : Nat} {I : Im} {F : List HP} {w : World} (hs : Sat I (F) w) (M : Rs I 1 T e.length R (e.flatMap eB)) :
    CV P 46 [.slice T e.length R, iN G] w fun v w' => ∃ (J : Im) (a0 : Option Addr) (c0 : Nat), Im.le I J ∧ Sat J (F) w' ∧ v = .slice a0 r.length c0 ∧ Rs J 1 a0 r.length c0 (r.flatMap eB) := by
 unfold f46_m at hm
 refine cv_of (n := 48) Proofs.Tryz.func46 rfl rfl (nLe rfl) <| cQ <| cR <| asS rfl <| oN <| sQR <| cQ <| cR <| mI rfl <| oV (x_lss rfl rfl) rfl <| oN ?_
 refine sK ?_
 by_cases D : G < 0
 · rw [if_pos D] at hm
   refine cIt rfl (dT D) <| cR ?_
   cases hm
 rw [if_neg D] at hm
 refine cIf rfl (dF D) <| cw_skip <| sQR <| cR <| mS rfl <| oV (x_len sl38 rfl) rfl <| oV (x_conv (a := (e.length : Int)) it3 it204 rfl) rfl <| mI rfl <| oV (x_conv (a := G) it3 it204 rfl) rfl ?_
 obtain ⟨d, ag, hm⟩ := bS hm
 refine oC (fi := []) (vs := [.int .u64 (IntKind.u64.wrap ((e.length : Int))), .int .u64 (IntKind.u64.wrap (G))]) (ca := []) rfl ⟨rfl, rfl, trivial⟩ en81 (f81_ok _ _ ag hs) ?_
 clear hs; rintro _ w ⟨J4, L, hs, rfl⟩
 refine oV (xM (v := .tuple #[.int .u64 d.1, .int .u64 d.2]) rfl) rfl <| oV (xE (v := .int .u64 d.1) rfl rfl) rfl <| oV (xE (v := .int .u64 d.2) rfl rfl) rfl <| asI rfl <| asI rfl <| oN <| sQR <| cQ <| cR <| mI rfl <| oV (x_gtr rfl rfl) rfl ?_
 refine mB rfl ?_
 obtain ⟨b7, l, hm⟩ := bS hm
 refine oJN 3 (fun f ds w => ∃ (V : Im), ds = [] ∧ Im.le J4 V ∧ Sat V (F) w ∧ f 26 = .bool b7 ∧ f 0 = .slice T e.length R ∧ f 4 = .slice none 0 0 ∧ f 6 = .int .u64 d.2) ?_ ?_
 · by_cases h : 0 < d.1
   · rw [if_pos h] at l
     refine oO (b := true) (yO rfl rfl (dT h)) rfl <| oO (b := true) (yO rfl rfl (dT h)) rfl <| oV (xPt (v := .bool true) ((rfl : ev _ _ _ = _).trans (congrArg Value.bool (dT h))) rfl) rfl <| oN ?_
     obtain rfl := oJ l
     exact ⟨J4, rfl, iR, hs, rfl, rfl, rfl, rfl⟩
   rw [if_neg h] at l
   refine oG (yO rfl rfl (dF h)) <| mI rfl <| oG (yO rfl rfl (dF h)) <| oV (x_gtr rfl rfl) rfl <| oV (xPf (v := .bool (decide (9223372036854775807 < d.2))) ((rfl : ev _ _ _ = _).trans (congrArg Value.bool (dF h))) rfl) rfl <| oN ?_
   obtain rfl := oJ l
   exact ⟨J4, rfl, iR, hs, rfl, rfl, rfl, rfl⟩
 clear l hs
 rintro f ds w ⟨V, rfl, K, hs, htbb7, C, A, y⟩
 refine oN <| sK ?_
 by_cases s : b7 = true
 · rw [if_pos s] at hm
   refine cIt htbb7 s <| cR ?_
   cases hm
 rw [if_neg s] at hm
 refine cIf htbb7 (bF s) <| cw_skip <| sQR <| cR <| mI y <| oV (x_conv (a := d.2) it204 it3 rfl) rfl ?_
 have u := (iS hm).1
 replace hm := (iS hm).2
 refine ow_makeT (enc := eB) (z := (false : Bool)) (i := (w64 (d.2))) (j := (w64 (d.2))) hs sl38 ty4 el4 rfl rfl rfl rfl u.1 u.2.1 u.2.2 (by decide) ?_
 clear hs; intro o w hs
 refine asS rfl <| oN <| sQR <| cR <| mS rfl <| mS C ?_
 have ad := (iS hm).1
 replace hm := (iS hm).2
 replace M := M.mono (L.trans K)
 refine ow_copyO (k := 0) (enc := eB) (X := (List.replicate (w64 (d.2)).toNat (false : Bool))) (Y := e) (lo := 0) hs rfl sl38 ty4 rfl rfl (so_zero _ _ _) (Nat.sub_zero _) rfl M (fun _ => rfl) (fun _ => rfl) ad ?_
 clear hs; intro w hs
 refine asI rfl <| oN <| sK ?_
 obtain ⟨W, ac, aa⟩ := bS hm
 replace hm := ac; clear ac
 refine cJ (fun f ds w => ∃ (U : Im), ds = [] ∧ Im.le V U ∧ Sat U (osl 4 1 o (List.replicate (w64 (d.2)).toNat (false : Bool)).length ((w64 (d.2)).toNat) ((List.take 0 (List.replicate (w64 (d.2)).toNat (false : Bool)) ++ e ++ (List.replicate (w64 (d.2)).toNat (false : Bool)).drop (0 + e.length)).flatMap eB) :: F) w ∧ f 4 = .slice none 0 0 ∧ f 7 = .slice o ((List.replicate (w64 (d.2)).toNat (false : Bool)).length) ((w64 (d.2)).toNat)) ?_ ?_
 · refine cw_block ?_
   refine cL (S := fun k f ds w => ∃ (E : Im), ds = [] ∧ Im.le V E ∧ f46_l0 e d k  = some W ∧ Sat E (osl 4 1 o (List.replicate (w64 (d.2)).toNat (false : Bool)).length ((w64 (d.2)).toNat) ((List.take 0 (List.replicate (w64 (d.2)).toNat (false : Bool)) ++ e ++ (List.replicate (w64 (d.2)).toNat (false : Bool)).drop (0 + e.length)).flatMap eB) :: F) w ∧ f 4 = .slice none 0 0 ∧ f 7 = .slice o ((List.replicate (w64 (d.2)).toNat (false : Bool)).length) ((w64 (d.2)).toNat) ∧ f 8 = iN (e.length : Int)) ?_ (k := FUEL) ⟨V, rfl, iR, hm, hs, A, rfl, rfl⟩
   clear hm hs
   rintro k f ds w ⟨E, rfl, Q, hm, hs, B, p, x⟩
   rcases k with _ | k
   · unfold f46_l0 at hm; cases hm
   unfold f46_l0 at hm
   refine cQ <| cQ <| cR <| mI x <| mS p ?_
   have ab := osl_n (k := 0) hs rfl (fun _ => rfl) (by decide)
   refine oV (v := iN ((List.take 0 (List.replicate (w64 (d.2)).toNat (false : Bool)) ++ e ++ (List.replicate (w64 (d.2)).toNat (false : Bool)).drop (0 + e.length)).length : Int)) ((x_len sl38 rfl).trans (by rw [ab])) rfl <| oV (x_lss rfl rfl) rfl <| oN <| sK ?_
   by_cases q : (e.length : Int) < ((List.take 0 (List.replicate (w64 (d.2)).toNat (false : Bool)) ++ e ++ (List.replicate (w64 (d.2)).toNat (false : Bool)).drop (0 + e.length)).length : Int)
   · rw [if_pos q] at hm
     refine cIt rfl (dT q) <| cw_skip <| sK <| cw_block ?_
     cases hm
   rw [if_neg q] at hm
   refine cIf rfl (dF q) <| cw_exit <| seqK_x <| loopK_x <| blockK_hit ?_
   obtain rfl := oJ hm
   refine jN ⟨E, rfl, Q, hs, B, p⟩
 clear hm hs
 rintro f ds w ⟨U, rfl, O, hs, Z, t⟩
 replace hm := aa
 refine cQ <| cR <| mS t <| asS rfl <| oN <| sK <| cw_ret ?_
 have H := osl_n (k := 0) hs rfl (fun _ => rfl) (by decide)
 replace hs := hs.eqv (k := 0) rfl (by rw [H])
 refine rK (rs := [.tmp 4]) (vs := [.slice o ((List.take 0 (List.replicate (w64 (d.2)).toNat (false : Bool)) ++ e ++ (List.replicate (w64 (d.2)).toNat (false : Bool)).drop (0 + e.length)).length) ((w64 (d.2)).toNat)]) (.inr rfl) rfl ⟨(slen (oa := o) (m := (List.replicate (w64 (d.2)).toNat (false : Bool)).length) (m' := (List.take 0 (List.replicate (w64 (d.2)).toNat (false : Bool)) ++ e ++ (List.replicate (w64 (d.2)).toNat (false : Bool)).drop (0 + e.length)).length) (c := (w64 (d.2)).toNat) rfl H), trivial⟩ ?_
 obtain rfl := oJ hm
 obtain ⟨ai, N, ae, hs⟩ := hs.freezeO
 exact ⟨ai, o, (w64 (d.2)).toNat, (((L.trans K).trans O).trans N), hs, rfl, ae⟩
def f20_m (x : Int) (u : Int) (q : List Int) (a : Int) (z : Int) (y : Int) (t : Int) (s : Int) : Option (T0x) :=
  ((f45_m ([(x, u, q)] : List (Int × Int × List Int))).bind fun aN => (if (!aN) = true then some (0, 0, ([] : List Int), 0, 0, ([] : List Int), 20) else ((f26_m 0 2 [a]).bind fun aM => ((if (!aM) = true then some true else ((f26_m 0 400 [z, y]).bind fun aL => some (!aL))).bind fun aR => ((if aR = true then some true else some (decide (y < z))).bind fun aQ => ((if aQ = true then some true else ((f26_m 0 255 [t, s]).bind fun aK => some (!aK))).bind fun aP => (if aP = true then some (0, 0, ([] : List Int), 0, 0, ([] : List Int), 2) else ((f46_m [true] (w64 ((w64 ((w64 (2 * a)) + 1)) * (w64 ((w64 (2 * a)) + 1))))).bind fun U => ((f47_m x u q (w64 ((w64 (2 * a)) + 1)) (w64 ((w64 (2 * a)) + 1)) U).bind fun B => ((f48_m x u q (w64 ((w64 (2 * a)) + 1)) (w64 ((w64 (2 * a)) + 1)) U).bind fun A => ((f49_m B.1 B.2.1 B.2.2.1 z (w64 ((-100) * (w64 (t + s)))) 100 0 255).bind fun d => ((f49_m A.1 A.2.1 A.2.2.1 y (w64 (100 * (w64 (t + s)))) 100 0 255).bind fun c => some (d.1, d.2.1, d.2.2.1, c.1, c.2.1, c.2.2.1, 0)))))))))))))
theorem f20_ok (x : Int) (u : Int) (q : List Int) (a : Int) (z : Int) (y : Int) (t : Int) (s : Int) {r : T0x} (hm : f20_m x u q a z y t s = some r) {p : Option Addr} {i : Nat} {I : Im} {F : List HP} {w : World} (hs : Sat I (F) w) (Q : Rs I 1 p q.length i (q.flatMap e64)) :
    CV P 20 [.agg (cL0 x u p q.length i).toArray, .agg (cL3 a z y t s).toArray] w fun v w' => ∃ (J : Im) (a2 : Option Addr) (c2 : Nat) (a5 : Option Addr) (c5 : Nat), Im.le I J ∧ Sat J (F) w' ∧ v = .tuple #[.agg (cL0 r.1 r.2.1 a2 r.2.2.1.length c2).toArray, .agg (cL0 r.2.2.2.1 r.2.2.2.2.1 a5 r.2.2.2.2.2.1.length c5).toArray, iN r.2.2.2.2.2.2] ∧ Rs J 1 a2 r.2.2.1.length c2 (r.2.2.1.flatMap e64) ∧ Rs J 1 a5 r.2.2.2.2.2.1.length c5 (r.2.2.2.2.2.1.flatMap e64) := by
 unfold f20_m at hm
 refine cv_of (n := 107) Proofs.Tryz.func20 rfl rfl (nLe rfl) <| cQ <| cR <| oB (v := .agg (cL0 x u p q.length i).toArray) (cs := (cL0 x u p q.length i)) hs rfl rfl ?_
 clear hs; intro b1 w hs
 refine oB (v := .agg (cL3 a z y t s).toArray) (cs := (cL3 a z y t s)) hs rfl rfl ?_
 clear hs; intro b3 w hs
 refine ow_alloc hs ty26 rfl ?_
 clear hs; intro b5 w hs
 refine ow_alloc hs ty26 rfl ?_
 clear hs; intro b7 w hs
 refine asI rfl <| oN <| sQR <| cQ <| cR <| oL (k := 3) (vs := (cL0 x u p q.length i)) (v := .agg (cL0 x u p q.length i).toArray) hs rfl rfl ty26 rfl rfl rfl <| ow_buildSlice (vp := [(0, .agg (cL0 x u p q.length i).toArray)]) (cs := (cL0 x u p q.length i)) hs sl86 ty26 rfl ⟨rfl, rfl, trivial⟩ (by decide) rfl (by decide) ?_
 clear hs; intro bv J9 w ac hs bg
 obtain ⟨aN, bf, hm⟩ := bS hm
 replace Q := Q.mono ac
 refine oC (fi := []) (vs := [.slice bv 1 1]) (ca := []) rfl ⟨rfl, trivial⟩ en45 (f45_ok _ bf hs ⟨_, bg, (NL.one ⟨p, i, rfl, Q⟩)⟩) ?_
 clear hs; rintro _ w ⟨bD, ab, hs, rfl⟩
 refine oV (x_not (b := aN) rfl) rfl <| oN <| sK ?_
 by_cases ay : (!aN) = true
 · rw [if_pos ay] at hm
   refine cIt rfl ay <| cQ <| cR <| oU (vp := []) (cs := (cL0 0 0 none 0 0)) st26 ty26 trivial rfl <| oU (vp := []) (cs := (cL0 0 0 none 0 0)) st26 ty26 trivial rfl <| oS (k := 1) (vs := (cL0 0 0 none 0 0)) (cs' := (cL0 0 0 none 0 0)) hs rfl rfl rfl ty26 rfl rfl (nLe rfl) rfl rfl ?_
   clear hs; intro w hs
   refine oS (k := 0) (vs := (cL0 0 0 none 0 0)) (cs' := (cL0 0 0 none 0 0)) hs rfl rfl rfl ty26 rfl rfl (nLe rfl) rfl rfl ?_
   clear hs; intro w hs
   refine asI rfl <| oN <| sK <| cw_ret <| seqK_r <| rK (rs := [.cell 4 26, .cell 5 26, .tmp 6]) (vs := [.agg (cL0 0 0 none 0 0).toArray, .agg (cL0 0 0 none 0 0).toArray, iN 20]) (.inr rfl) rfl ⟨⟨_, true, _, (cL0 0 0 none 0 0), rfl, ty26, CA_blk (off := 0) (m := 3) (hs.blk (k := 1) rfl), rfl, rfl⟩, ⟨_, true, _, (cL0 0 0 none 0 0), rfl, ty26, CA_blk (off := 0) (m := 3) (hs.blk (k := 0) rfl), rfl, rfl⟩, rfl, trivial⟩ ?_
   obtain rfl := oJ hm
   replace hs := hs.erase 0
   replace hs := hs.erase 0
   replace hs := hs.erase 0
   replace hs := hs.erase 0
   exact ⟨bD, none, 0, none, 0, (ac.trans ab), hs, rfl, (Rs.nil _ _ _), (Rs.nil _ _ _)⟩
 rw [if_neg ay] at hm
 refine cIf rfl (bF ay) <| cw_skip <| sQR <| cQ <| cR <| oF (b := b3) (o := 0) fl90_0 rfl <| ld1 (k := 2) hs rfl rfl ty3 rfl <| ow_buildSlice (vp := [(0, iN a)]) (cs := [iN a]) hs sl24 ty3 rfl ⟨rfl, rfl, trivial⟩ (by decide) rfl (by decide) ?_
 clear hs; intro bl bC w au hs aI
 replace aI : Rs bC 1 bl [a].length 1 ([a].flatMap e64) := aI
 obtain ⟨aM, be, hm⟩ := bS hm
 refine oC (fi := []) (vs := (cL0 0 2 bl ([a].length) 1)) (ca := []) rfl ⟨rfl, rfl, rfl, trivial⟩ en26 (f26_ok _ _ _ be hs aI) ?_
 clear hs; rintro _ w ⟨bn, ar, hs, rfl⟩
 refine oV (x_not (b := aM) rfl) rfl <| mB rfl ?_
 obtain ⟨aR, T, hm⟩ := bS hm
 refine oJN 8 (fun f ds w => ∃ (az : Im), ds = [] ∧ Im.le bn az ∧ Sat az (blk b7 26 (cL0 0 0 none 0 0) :: blk b5 26 (cL0 0 0 none 0 0) :: blk b3 90 (cL3 a z y t s) :: blk b1 26 (cL0 x u p q.length i) :: F) w ∧ f 37 = .bool aR ∧ f 2 = pQ b1 0 ∧ f 3 = pQ b3 0 ∧ f 4 = pQ b5 0 ∧ f 5 = pQ b7 0 ∧ f 6 = iN 0) ?_ ?_
 · by_cases G : (!aM) = true
   · rw [if_pos G] at T
     refine oO (b := true) (yO rfl rfl G) rfl <| oO (b := true) (yO rfl rfl G) rfl <| oO (b := true) (yO rfl rfl G) rfl <| oO (b := true) (yO rfl rfl G) rfl <| oO (b := true) (yO rfl rfl G) rfl <| oO (b := true) (yO rfl rfl G) rfl <| oO (b := true) (yO rfl rfl G) rfl <| oV (xPt (v := .bool true) ((rfl : ev _ _ _ = _).trans (congrArg Value.bool G)) rfl) rfl <| oN ?_
     obtain rfl := oJ T
     exact ⟨bn, rfl, iR, hs, rfl, rfl, rfl, rfl, rfl, rfl⟩
   rw [if_neg G] at T
   refine oG (yO rfl rfl (bF G)) <| oF (b := b3) (o := 0) fl90_1 rfl <| oG (yO rfl rfl (bF G)) <| ld1 (k := 2) hs rfl rfl ty3 rfl <| oG (yO rfl rfl (bF G)) <| oF (b := b3) (o := 0) fl90_2 rfl <| oG (yO rfl rfl (bF G)) <| ld1 (k := 2) hs rfl rfl ty3 rfl <| oG (yO rfl rfl (bF G)) <| ow_buildSlice (vp := [(0, iN z), (1, iN y)]) (cs := [iN z, iN y]) hs sl24 ty3 rfl ⟨rfl, rfl, rfl, rfl, trivial⟩ (by decide) rfl (by decide) ?_
   clear hs; intro bk bB w a0 hs aH
   replace aH : Rs bB 1 bk [z, y].length 2 ([z, y].flatMap e64) := aH
   refine oG (yO rfl rfl (bF G)) ?_
   obtain ⟨aL, bd, T⟩ := bS T
   refine oC (fi := []) (vs := (cL0 0 400 bk ([z, y].length) 2)) (ca := []) rfl ⟨rfl, rfl, rfl, trivial⟩ en26 (f26_ok _ _ _ bd hs aH) ?_
   clear hs; rintro _ w ⟨bA, aZ, hs, rfl⟩
   refine oG (yO rfl rfl (bF G)) <| oV (x_not (b := aL) rfl) rfl <| oV (xPf (v := .bool (!aL)) ((rfl : ev _ _ _ = _).trans (congrArg Value.bool (bF G))) rfl) rfl <| oN ?_
   obtain rfl := oJ T
   exact ⟨bA, rfl, (a0.trans aZ), hs, rfl, rfl, rfl, rfl, rfl, rfl⟩
 clear T hs
 rintro f ds w ⟨az, rfl, aq, hs, htbb28, am, Y, aj, ah, af⟩
 refine mB htbb28 ?_
 obtain ⟨aQ, aa, hm⟩ := bS hm
 refine oJN 6 (fun f ds w => ∃ (aJ : Im), ds = [] ∧ Im.le az aJ ∧ Sat aJ (blk b7 26 (cL0 0 0 none 0 0) :: blk b5 26 (cL0 0 0 none 0 0) :: blk b3 90 (cL3 a z y t s) :: blk b1 26 (cL0 x u p q.length i) :: F) w ∧ f 44 = .bool aQ ∧ f 2 = pQ b1 0 ∧ f 3 = pQ b3 0 ∧ f 4 = pQ b5 0 ∧ f 5 = pQ b7 0 ∧ f 6 = iN 0) ?_ ?_
 · by_cases H : aR = true
   · rw [if_pos H] at aa
     refine oO (b := true) (yO rfl rfl H) rfl <| oO (b := true) (yO rfl rfl H) rfl <| oO (b := true) (yO rfl rfl H) rfl <| oO (b := true) (yO rfl rfl H) rfl <| oO (b := true) (yO rfl rfl H) rfl <| oV (xPt (v := .bool true) ((rfl : ev _ _ _ = _).trans (congrArg Value.bool H)) rfl) rfl <| oN ?_
     obtain rfl := oJ aa
     exact ⟨az, rfl, iR, hs, rfl, am, Y, aj, ah, af⟩
   rw [if_neg H] at aa
   refine oG (yO rfl rfl (bF H)) <| oF (b := b3) (o := 0) fl90_1 Y <| oG (yO rfl rfl (bF H)) <| ld1 (k := 2) hs rfl rfl ty3 rfl <| oG (yO rfl rfl (bF H)) <| oF (b := b3) (o := 0) fl90_2 Y <| oG (yO rfl rfl (bF H)) <| ld1 (k := 2) hs rfl rfl ty3 rfl <| oG (yO rfl rfl (bF H)) <| oV (x_gtr rfl rfl) rfl <| oV (xPf (v := .bool (decide (y < z))) ((rfl : ev _ _ _ = _).trans (congrArg Value.bool (bF H))) rfl) rfl <| oN ?_
   obtain rfl := oJ aa
   exact ⟨az, rfl, iR, hs, rfl, am, Y, aj, ah, af⟩
 clear aa hs
 rintro f ds w ⟨aJ, rfl, ap, hs, htbb41, al, X, ai, ag, ae⟩
 refine mB htbb41 ?_
 obtain ⟨aP, S, hm⟩ := bS hm
 refine oJN 8 (fun f ds w => ∃ (aS : Im), ds = [] ∧ Im.le aJ aS ∧ Sat aS (blk b7 26 (cL0 0 0 none 0 0) :: blk b5 26 (cL0 0 0 none 0 0) :: blk b3 90 (cL3 a z y t s) :: blk b1 26 (cL0 x u p q.length i) :: F) w ∧ f 53 = .bool aP ∧ f 2 = pQ b1 0 ∧ f 3 = pQ b3 0 ∧ f 4 = pQ b5 0 ∧ f 5 = pQ b7 0 ∧ f 6 = iN 0) ?_ ?_
 · by_cases E : aQ = true
   · rw [if_pos E] at S
     refine oO (b := true) (yO rfl rfl E) rfl <| oO (b := true) (yO rfl rfl E) rfl <| oO (b := true) (yO rfl rfl E) rfl <| oO (b := true) (yO rfl rfl E) rfl <| oO (b := true) (yO rfl rfl E) rfl <| oO (b := true) (yO rfl rfl E) rfl <| oO (b := true) (yO rfl rfl E) rfl <| oV (xPt (v := .bool true) ((rfl : ev _ _ _ = _).trans (congrArg Value.bool E)) rfl) rfl <| oN ?_
     obtain rfl := oJ S
     exact ⟨aJ, rfl, iR, hs, rfl, al, X, ai, ag, ae⟩
   rw [if_neg E] at S
   refine oG (yO rfl rfl (bF E)) <| oF (b := b3) (o := 0) fl90_3 X <| oG (yO rfl rfl (bF E)) <| ld1 (k := 2) hs rfl rfl ty3 rfl <| oG (yO rfl rfl (bF E)) <| oF (b := b3) (o := 0) fl90_4 X <| oG (yO rfl rfl (bF E)) <| ld1 (k := 2) hs rfl rfl ty3 rfl <| oG (yO rfl rfl (bF E)) <| ow_buildSlice (vp := [(0, iN t), (1, iN s)]) (cs := [iN t, iN s]) hs sl24 ty3 rfl ⟨rfl, rfl, rfl, rfl, trivial⟩ (by decide) rfl (by decide) ?_
   clear hs; intro bj bz w aY hs aG
   replace aG : Rs bz 1 bj [t, s].length 2 ([t, s].flatMap e64) := aG
   refine oG (yO rfl rfl (bF E)) ?_
   obtain ⟨aK, bc, S⟩ := bS S
   refine oC (fi := []) (vs := (cL0 0 255 bj ([t, s].length) 2)) (ca := []) rfl ⟨rfl, rfl, rfl, trivial⟩ en26 (f26_ok _ _ _ bc hs aG) ?_
   clear hs; rintro _ w ⟨bx, aX, hs, rfl⟩
   refine oG (yO rfl rfl (bF E)) <| oV (x_not (b := aK) rfl) rfl <| oV (xPf (v := .bool (!aK)) ((rfl : ev _ _ _ = _).trans (congrArg Value.bool (bF E))) rfl) rfl <| oN ?_
   obtain rfl := oJ S
   exact ⟨bx, rfl, (aY.trans aX), hs, rfl, al, X, ai, ag, ae⟩
 clear S hs
 rintro f ds w ⟨aS, rfl, ao, hs, htbb45, ak, R, W, V, a6⟩
 refine oN <| sK ?_
 by_cases ax : aP = true
 · rw [if_pos ax] at hm
   refine cIt htbb45 ax <| cQ <| cR <| oU (vp := []) (cs := (cL0 0 0 none 0 0)) st26 ty26 trivial rfl <| oU (vp := []) (cs := (cL0 0 0 none 0 0)) st26 ty26 trivial rfl <| oS (k := 1) (vs := (cL0 0 0 none 0 0)) (cs' := (cL0 0 0 none 0 0)) hs rfl W rfl ty26 rfl rfl (nLe rfl) rfl rfl ?_
   clear hs; intro w hs
   refine oS (k := 0) (vs := (cL0 0 0 none 0 0)) (cs' := (cL0 0 0 none 0 0)) hs rfl V rfl ty26 rfl rfl (nLe rfl) rfl rfl ?_
   clear hs; intro w hs
   refine asI rfl <| oN <| sK <| cw_ret <| seqK_r <| rK (rs := [.cell 4 26, .cell 5 26, .tmp 6]) (vs := [.agg (cL0 0 0 none 0 0).toArray, .agg (cL0 0 0 none 0 0).toArray, iN 2]) (.inr rfl) rfl ⟨⟨_, true, _, (cL0 0 0 none 0 0), W, ty26, CA_blk (off := 0) (m := 3) (hs.blk (k := 1) rfl), rfl, rfl⟩, ⟨_, true, _, (cL0 0 0 none 0 0), V, ty26, CA_blk (off := 0) (m := 3) (hs.blk (k := 0) rfl), rfl, rfl⟩, rfl, trivial⟩ ?_
   obtain rfl := oJ hm
   replace hs := hs.erase 0
   replace hs := hs.erase 0
   replace hs := hs.erase 0
   replace hs := hs.erase 0
   exact ⟨aS, none, 0, none, 0, ((((((ac.trans ab).trans au).trans ar).trans aq).trans ap).trans ao), hs, rfl, (Rs.nil _ _ _), (Rs.nil _ _ _)⟩
 rw [if_neg ax] at hm
 refine cIf htbb45 (bF ax) <| cw_skip <| sQR <| cR <| oF (b := b3) (o := 0) fl90_0 R <| ld1 (k := 2) hs rfl rfl ty3 rfl <| oV (x_mul rfl rfl) rfl <| oV (x_add rfl rfl) rfl <| asI rfl <| oN <| sK ?_
 refine cQ <| cR <| mI rfl <| mI rfl <| ow_buildSlice (vp := [(0, .bool true)]) (cs := [.bool true]) hs sl38 ty4 rfl ⟨rfl, rfl, trivial⟩ (by decide) rfl (by decide) ?_
 clear hs; intro bi bw w aE hs aF
 replace aF : Rs bw 1 bi [true].length 1 ([true].flatMap eB) := aF
 refine mI rfl <| mI rfl <| oV (x_mul rfl rfl) rfl ?_
 obtain ⟨U, bb, hm⟩ := bS hm
 refine oC (fi := []) (vs := [.slice bi ([true].length) 1, iN (w64 ((w64 ((w64 (2 * a)) + 1)) * (w64 ((w64 (2 * a)) + 1))))]) (ca := []) rfl ⟨rfl, rfl, trivial⟩ en46 (f46_ok _ _ bb hs aF) ?_
 clear hs; rintro _ w ⟨bO, D, C, aD, hs, rfl, hRz67_0⟩
 refine oU (vp := [(0, iN (w64 ((w64 (2 * a)) + 1))), (1, iN (w64 ((w64 (2 * a)) + 1))), (2, .slice D U.length C)]) (cs := (cL0 (w64 ((w64 (2 * a)) + 1)) (w64 ((w64 (2 * a)) + 1)) D U.length C)) st40 ty40 ⟨rfl, rfl, rfl, rfl, rfl, rfl, trivial⟩ rfl <| ow_alloc hs ty40 rfl ?_
 clear hs; intro bu w hs
 refine oS (k := 0) (vs := (cL0 (w64 ((w64 (2 * a)) + 1)) (w64 ((w64 (2 * a)) + 1)) D U.length C)) (cs' := (cL0 (w64 ((w64 (2 * a)) + 1)) (w64 ((w64 (2 * a)) + 1)) D U.length C)) hs rfl rfl rfl ty40 rfl rfl (nLe rfl) rfl rfl ?_
 clear hs; intro w hs
 refine oN <| sQR <| cR <| oL (k := 4) (vs := (cL0 x u p q.length i)) (v := .agg (cL0 x u p q.length i).toArray) hs rfl ak ty26 rfl rfl rfl <| oL (k := 0) (vs := (cL0 (w64 ((w64 (2 * a)) + 1)) (w64 ((w64 (2 * a)) + 1)) D U.length C)) (v := .agg (cL0 (w64 ((w64 (2 * a)) + 1)) (w64 ((w64 (2 * a)) + 1)) D U.length C).toArray) hs rfl rfl ty40 rfl rfl rfl ?_
 obtain ⟨B, ba, hm⟩ := bS hm
 replace Q := Q.mono (((((((ab.trans au).trans ar).trans aq).trans ap).trans ao).trans aE).trans aD)
 refine oC (fi := []) (vs := [.agg (cL0 x u p q.length i).toArray, .agg (cL0 (w64 ((w64 (2 * a)) + 1)) (w64 ((w64 (2 * a)) + 1)) D U.length C).toArray]) (ca := []) rfl ⟨rfl, rfl, trivial⟩ en47 (f47_ok _ _ _ _ _ _ ba hs Q hRz67_0) ?_
 clear hs; rintro _ w ⟨bN, O, M, an, hs, rfl, hRz74_2⟩
 refine oV (xM (v := .tuple #[.agg (cL0 B.1 B.2.1 O B.2.2.1.length M).toArray, iN B.2.2.2]) rfl) rfl <| oV (xE (v := .agg (cL0 B.1 B.2.1 O B.2.2.1.length M).toArray) rfl rfl) rfl <| oV (xE (v := iN B.2.2.2) rfl rfl) rfl <| ow_alloc hs ty26 rfl ?_
 clear hs; intro bt w hs
 refine oS (k := 0) (vs := (cL0 B.1 B.2.1 O B.2.2.1.length M)) (cs' := (cL0 B.1 B.2.1 O B.2.2.1.length M)) hs rfl rfl rfl ty26 rfl rfl (nLe rfl) rfl rfl ?_
 clear hs; intro w hs
 refine asI rfl <| oN <| sQR <| cR <| oL (k := 5) (vs := (cL0 x u p q.length i)) (v := .agg (cL0 x u p q.length i).toArray) hs rfl ak ty26 rfl rfl rfl <| oL (k := 1) (vs := (cL0 (w64 ((w64 (2 * a)) + 1)) (w64 ((w64 (2 * a)) + 1)) D U.length C)) (v := .agg (cL0 (w64 ((w64 (2 * a)) + 1)) (w64 ((w64 (2 * a)) + 1)) D U.length C).toArray) hs rfl rfl ty40 rfl rfl rfl ?_
 obtain ⟨A, a9, hm⟩ := bS hm
 replace Q := Q.mono an; replace hRz67_0 := hRz67_0.mono an
 refine oC (fi := []) (vs := [.agg (cL0 x u p q.length i).toArray, .agg (cL0 (w64 ((w64 (2 * a)) + 1)) (w64 ((w64 (2 * a)) + 1)) D U.length C).toArray]) (ca := []) rfl ⟨rfl, rfl, trivial⟩ en48 (f48_ok _ _ _ _ _ _ a9 hs Q hRz67_0) ?_
 clear hs; rintro _ w ⟨bM, N, K, aC, hs, rfl, hRz81_2⟩
 refine oV (xM (v := .tuple #[.agg (cL0 A.1 A.2.1 N A.2.2.1.length K).toArray, iN A.2.2.2]) rfl) rfl <| oV (xE (v := .agg (cL0 A.1 A.2.1 N A.2.2.1.length K).toArray) rfl rfl) rfl <| oV (xE (v := iN A.2.2.2) rfl rfl) rfl <| ow_alloc hs ty26 rfl ?_
 clear hs; intro bs w hs
 refine oS (k := 0) (vs := (cL0 A.1 A.2.1 N A.2.2.1.length K)) (cs' := (cL0 A.1 A.2.1 N A.2.2.1.length K)) hs rfl rfl rfl ty26 rfl rfl (nLe rfl) rfl rfl ?_
 clear hs; intro w hs
 refine asI rfl <| oN <| sQR <| cR <| oF (b := b3) (o := 0) fl90_3 R <| ld1 (k := 5) hs rfl rfl ty3 rfl <| oF (b := b3) (o := 0) fl90_4 R <| ld1 (k := 5) hs rfl rfl ty3 rfl <| oV (x_add rfl rfl) rfl <| asI rfl <| oN ?_
 refine sQR <| cR <| oL (k := 1) (vs := (cL0 B.1 B.2.1 O B.2.2.1.length M)) (v := .agg (cL0 B.1 B.2.1 O B.2.2.1.length M).toArray) hs rfl rfl ty26 rfl rfl rfl <| oF (b := b3) (o := 0) fl90_1 R <| ld1 (k := 5) hs rfl rfl ty3 rfl <| mI rfl <| oV (x_mul rfl rfl) rfl <| oU (vp := [(0, iN z), (1, iN (w64 ((-100) * (w64 (t + s))))), (2, iN 100), (4, iN 255)]) (cs := (cL3 z (w64 ((-100) * (w64 (t + s)))) 100 0 255)) st35 ty35 ⟨rfl, rfl, rfl, rfl, rfl, rfl, rfl, rfl, trivial⟩ rfl ?_
 obtain ⟨d, a8, hm⟩ := bS hm
 replace hRz74_2 := hRz74_2.mono aC
 refine oC (fi := []) (vs := [.agg (cL0 B.1 B.2.1 O B.2.2.1.length M).toArray, .agg (cL3 z (w64 ((-100) * (w64 (t + s)))) 100 0 255).toArray]) (ca := []) rfl ⟨rfl, rfl, trivial⟩ en49 (f49_ok _ _ _ _ _ _ _ _ a8 hs hRz74_2) ?_
 clear hs; rintro _ w ⟨bL, l, h, aB, hs, rfl⟩
 refine oV (xM (v := .tuple #[.agg (cL0 d.1 d.2.1 l d.2.2.1.length h).toArray, iN d.2.2.2]) rfl) rfl <| oV (xE (v := .agg (cL0 d.1 d.2.1 l d.2.2.1.length h).toArray) rfl rfl) rfl <| oV (xE (v := iN d.2.2.2) rfl rfl) rfl <| ow_alloc hs ty26 rfl ?_
 clear hs; intro br w hs
 refine oS (k := 0) (vs := (cL0 d.1 d.2.1 l d.2.2.1.length h)) (cs' := (cL0 d.1 d.2.1 l d.2.2.1.length h)) hs rfl rfl rfl ty26 rfl rfl (nLe rfl) rfl rfl ?_
 clear hs; intro w hs
 refine asI rfl <| oN <| sQR <| cR <| oL (k := 2) (vs := (cL0 A.1 A.2.1 N A.2.2.1.length K)) (v := .agg (cL0 A.1 A.2.1 N A.2.2.1.length K).toArray) hs rfl rfl ty26 rfl rfl rfl <| oF (b := b3) (o := 0) fl90_2 R <| ld1 (k := 7) hs rfl rfl ty3 rfl <| mI rfl <| oV (x_mul rfl rfl) rfl <| oU (vp := [(0, iN y), (1, iN (w64 (100 * (w64 (t + s))))), (2, iN 100), (4, iN 255)]) (cs := (cL3 y (w64 (100 * (w64 (t + s)))) 100 0 255)) st35 ty35 ⟨rfl, rfl, rfl, rfl, rfl, rfl, rfl, rfl, trivial⟩ rfl ?_
 obtain ⟨c, a7, hm⟩ := bS hm
 replace hRz81_2 := hRz81_2.mono aB
 refine oC (fi := []) (vs := [.agg (cL0 A.1 A.2.1 N A.2.2.1.length K).toArray, .agg (cL3 y (w64 (100 * (w64 (t + s)))) 100 0 255).toArray]) (ca := []) rfl ⟨rfl, rfl, trivial⟩ en49 (f49_ok _ _ _ _ _ _ _ _ a7 hs hRz81_2) ?_
 clear hs; rintro _ w ⟨bm, j, e, aW, hs, rfl⟩
 refine oV (xM (v := .tuple #[.agg (cL0 c.1 c.2.1 j c.2.2.1.length e).toArray, iN c.2.2.2]) rfl) rfl <| oV (xE (v := .agg (cL0 c.1 c.2.1 j c.2.2.1.length e).toArray) rfl rfl) rfl <| oV (xE (v := iN c.2.2.2) rfl rfl) rfl <| ow_alloc hs ty26 rfl ?_
 clear hs; intro bq w hs
 refine oS (k := 0) (vs := (cL0 c.1 c.2.1 j c.2.2.1.length e)) (cs' := (cL0 c.1 c.2.1 j c.2.2.1.length e)) hs rfl rfl rfl ty26 rfl rfl (nLe rfl) rfl rfl ?_
 clear hs; intro w hs
 refine asI rfl <| oN <| sQR ?_
 refine cD mixed rfl (fun f0 L f w => ∃ (Iq : Im), Im.le bm Iq ∧ f = frL [(105, 0, .agg (cL0 d.1 d.2.1 l d.2.2.1.length h).toArray), (106, 1, .agg (cL0 c.1 c.2.1 j c.2.2.1.length e).toArray), (6, 4, iN 0)] L f0 ∧ Sat Iq (blk bq 26 (cL0 c.1 c.2.1 j c.2.2.1.length e) :: osl 3 1 j c.2.2.1.length e (c.2.2.1.flatMap e64) :: blk br 26 (cL0 d.1 d.2.1 l d.2.2.1.length h) :: osl 3 1 l d.2.2.1.length h (d.2.2.1.flatMap e64) :: blk bs 26 (cL0 A.1 A.2.1 N A.2.2.1.length K) :: blk bt 26 (cL0 B.1 B.2.1 O B.2.2.1.length M) :: blk bu 40 (cL0 (w64 ((w64 (2 * a)) + 1)) (w64 ((w64 (2 * a)) + 1)) D U.length C) :: rL [(3, blk b7 26 (cL0 c.1 c.2.1 j c.2.2.1.length e))] (blk b7 26 (cL0 0 0 none 0 0)) L :: rL [(2, blk b5 26 (cL0 d.1 d.2.1 l d.2.2.1.length h))] (blk b5 26 (cL0 0 0 none 0 0)) L :: blk b3 90 (cL3 a z y t s) :: blk b1 26 (cL0 x u p q.length i) :: F) w) ⟨bm, iR, (frL_ff _).symm, hs.drew⟩ ⟨?_, ?_, ?_, ?_, ?_, trivial⟩ ?_
 all_goals clear hs
 · rintro L f w _ hL ⟨Iq, Z, rfl, hs⟩
   refine oL (k := 2) (vs := (cL0 d.1 d.2.1 l d.2.2.1.length h)) (v := .agg (cL0 d.1 d.2.1 l d.2.2.1.length h).toArray) hs rfl rfl ty26 rfl rfl rfl ?_
   exact oN ⟨rfl, rfl, Iq, Z, fS rfl rfl, hs⟩
 · rintro L f w _ hL ⟨Iq, Z, rfl, hs⟩
   refine oL (k := 0) (vs := (cL0 c.1 c.2.1 j c.2.2.1.length e)) (v := .agg (cL0 c.1 c.2.1 j c.2.2.1.length e).toArray) hs rfl rfl ty26 rfl rfl rfl ?_
   exact oN ⟨rfl, rfl, Iq, Z, fS rfl rfl, hs⟩
 · rintro L f w ⟨a3, _, _⟩ hL ⟨Iq, Z, rfl, hs⟩
   replace hs := hs.eqv (k := 8) rfl ((rL_f hL (rL_n)))
   refine oS (k := 8) (vs := (cL0 d.1 d.2.1 l d.2.2.1.length h)) (cs' := (cL0 d.1 d.2.1 l d.2.2.1.length h)) hs rfl W (fG rfl a3) ty26 rfl rfl (nLe rfl) rfl rfl ?_
   clear hs; intro w hs
   exact oN ⟨rfl, rfl, Iq, Z, frL_no rfl, hs⟩
 · rintro L f w ⟨bh, bp, a3, _, _, _⟩ hL ⟨Iq, Z, rfl, hs⟩
   replace hs := hs.eqv (k := 7) rfl ((rL_f hL (rL_n)))
   refine oS (k := 7) (vs := (cL0 c.1 c.2.1 j c.2.2.1.length e)) (cs' := (cL0 c.1 c.2.1 j c.2.2.1.length e)) hs rfl V (fG rfl bh) ty26 rfl rfl (nLe rfl) rfl rfl ?_
   clear hs; intro w hs
   exact oN ⟨rfl, rfl, Iq, Z, frL_no rfl, hs⟩
 · rintro L f w ⟨bK, a3, bh, bp, _, _⟩ hL ⟨Iq, Z, rfl, hs⟩
   refine asI rfl ?_
   exact oN ⟨rfl, rfl, Iq, Z, fS rfl rfl, hs⟩
 rintro L f w hall ⟨bP, aV, rfl, hs⟩
 rw [frL_tt _ rfl hall]
 replace hs := hs.eqv (k := 7) rfl (rL_t (hall 3 (nLe rfl)))
 replace hs := hs.eqv (k := 8) rfl (rL_t (hall 2 (nLe rfl)))
 refine sK <| cw_ret <| rK (rs := [.cell 4 26, .cell 5 26, .tmp 6]) (vs := [.agg (cL0 d.1 d.2.1 l d.2.2.1.length h).toArray, .agg (cL0 c.1 c.2.1 j c.2.2.1.length e).toArray, iN 0]) (.inr rfl) rfl ⟨⟨_, true, _, (cL0 d.1 d.2.1 l d.2.2.1.length h), W, ty26, CA_blk (off := 0) (m := 3) (hs.blk (k := 8) rfl), rfl, rfl⟩, ⟨_, true, _, (cL0 c.1 c.2.1 j c.2.2.1.length e), V, ty26, CA_blk (off := 0) (m := 3) (hs.blk (k := 7) rfl), rfl, rfl⟩, rfl, trivial⟩ ?_
 obtain rfl := oJ hm
 replace hs := hs.front (k := 3) rfl
 obtain ⟨bJ, aO, av, hs⟩ := hs.freezeO
 replace hs := hs.front (k := 1) rfl
 obtain ⟨bo, aw, a1, hs⟩ := hs.freezeO
 replace hs := hs.erase 0
 replace hs := hs.erase 0
 replace hs := hs.erase 0
 replace hs := hs.erase 0
 replace hs := hs.erase 0
 replace hs := hs.erase 0
 replace hs := hs.erase 0
 replace hs := hs.erase 0
 replace hs := hs.erase 0
 replace av := av.mono aw
 exact ⟨bo, l, h, j, e, (((((((((((((((ac.trans ab).trans au).trans ar).trans aq).trans ap).trans ao).trans aE).trans aD).trans an).trans aC).trans aB).trans aW).trans aV).trans aO).trans aw), hs, rfl, av, a1⟩
end Go.HL.Tz
