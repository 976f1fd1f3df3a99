/- The walks of some functions, printed by a program of ours (gox). -/
import Derived.Test.YtllfmfoahloldaaGreatZU
set_option linter.unusedVariables false
set_option linter.unusedSimpArgs false
set_option maxRecDepth 100000
set_option maxHeartbeats 400000
namespace Go.HL.Tz
open Go.HL
attribute [local irreducible] OW CW CV
def enc28 (x : Int) : List Value := [.int .i8 x]
theorem en18 : Proofs.Enters P 18 := Proofs.enters_of Proofs.Tryz.func18 (by kernel_rfl) rfl
theorem en19 : Proofs.Enters P 19 := Proofs.enters_of Proofs.Tryz.func19 (by kernel_rfl) rfl
theorem sl22 : SliceT P 22 5 := (by kernel_rfl : P.underlying 22 = some (.slice 5))
theorem sl52 : SliceT P 52 28 := (by kernel_rfl : P.underlying 52 = some (.slice 28))
theorem ty28 : TyC P 28 false [.int .i8 0] := ⟨by kernel_rfl, by kernel_rfl, (fun _ => rfl), by kernel_rfl⟩
theorem it28 : IntT P 28 .i8 := (by kernel_rfl : P.underlying 28 = some (.int .i8))
theorem st42 : StrT P 42 [(0, 1), (1, 1), (2, 1), (3, 5), (8, 1), (9, 3), (12, 1), (13, 3)] := ⟨by kernel_rfl⟩
theorem st33 : StrT P 33 [(0, 1), (1, 1), (2, 1), (3, 1)] := ⟨by kernel_rfl⟩
theorem st59 : StrT P 59 [(0, 1), (1, 1)] := ⟨by kernel_rfl⟩
theorem st56 : StrT P 56 [(0, 1), (1, 1), (2, 1), (3, 1), (4, 1), (5, 1), (6, 1)] := ⟨by kernel_rfl⟩
theorem st90 : StrT P 90 [(0, 1), (1, 1), (2, 1), (3, 1), (4, 1)] := ⟨by kernel_rfl⟩
theorem ty90 : TyC P 90 true [iN 0, iN 0, iN 0, iN 0, iN 0] := ⟨by kernel_rfl, by kernel_rfl, (fun h => by cases h), by kernel_rfl⟩
theorem en20 : Proofs.Enters P 20 := Proofs.enters_of Proofs.Tryz.func20 (by kernel_rfl) rfl
theorem st46 : StrT P 46 [(0, 1), (1, 1), (2, 1)] := ⟨by kernel_rfl⟩
theorem en8 : Proofs.Enters P 8 := Proofs.enters_of Proofs.Tryz.func8 (by kernel_rfl) rfl
theorem en13 : Proofs.Enters P 13 := Proofs.enters_of Proofs.Tryz.func13 (by kernel_rfl) rfl
def f8_m (E : Int) (D : Int) (C : Int) (x : List (T2x)) (j : Int) (i : Int) (h : Int) (z : Int) (y : Int) (u : List Int) : Option (Int × Int × List Int × Bool) :=
  ((f18_m E D C x j i h).bind fun e => ((f19_m j i h e.1 e.2.1 e.2.2.1 e.2.2.2.1 e.2.2.2.2.1 ([(z, y, u)] : List (Int × Int × List Int))).bind fun a => ((if e.2.2.2.2.2 = 0 then some (decide (a.2.2.2 = 0)) else some false).bind fun R => some (a.1, a.2.1, a.2.2.1, R))))
theorem f8_ok (E : Int) (D : Int) (C : Int) (x : List (T2x)) (j : Int) (i : Int) (h : Int) (z : Int) (y : Int) (u : List Int) {r : Int × Int × List Int × Bool} (hm : f8_m E D C x j i h z y u = some r) {B : Option Addr} {A : Nat} {t : Option Addr} {s : Nat} {I : Im} {F : List HP} {w : World} (hs : Sat I (F) w) (T : SN42 I B x.length A x) (M : Rs I 1 t u.length s (u.flatMap e64)) :
    CV P 8 [.agg (cL8 E D C B x.length A).toArray, .agg (cL1 j i h).toArray, .agg (cL0 z y t u.length s).toArray] w fun v w' => ∃ (J : Im) (a2 : Option Addr) (c2 : Nat), Im.le I J ∧ Sat J (F) w' ∧ v = .tuple #[.agg (cL0 r.1 r.2.1 a2 r.2.2.1.length c2).toArray, .bool r.2.2.2] ∧ Rs J 1 a2 r.2.2.1.length c2 (r.2.2.1.flatMap e64) := by
 unfold f8_m at hm
 refine cv_of (n := 33) Proofs.Tryz.func8 rfl rfl (nLe rfl) <| cQ <| cR <| oB (v := .agg (cL8 E D C B x.length A).toArray) (cs := (cL8 E D C B x.length A)) hs rfl rfl ?_
 clear hs; intro b1 w hs
 refine oB (v := .agg (cL1 j i h).toArray) (cs := (cL1 j i h)) hs rfl rfl ?_
 clear hs; intro b3 w hs
 refine oB (v := .agg (cL0 z y t u.length s).toArray) (cs := (cL0 z y t u.length s)) hs rfl rfl ?_
 clear hs; intro b5 w hs
 refine ow_alloc hs ty26 rfl ?_
 clear hs; intro b7 w hs
 refine asB rfl <| oN <| sQR <| cR <| oL (k := 3) (vs := (cL8 E D C B x.length A)) (v := .agg (cL8 E D C B x.length A).toArray) hs rfl rfl ty33 rfl rfl rfl <| oL (k := 2) (vs := (cL1 j i h)) (v := .agg (cL1 j i h).toArray) hs rfl rfl ty46 rfl rfl rfl ?_
 obtain ⟨e, Y, hm⟩ := bS hm
 refine oC (fi := []) (vs := [.agg (cL8 E D C B x.length A).toArray, .agg (cL1 j i h).toArray]) (ca := []) rfl ⟨rfl, rfl, trivial⟩ en18 (f18_ok _ _ _ _ _ _ _ Y hs T) ?_
 clear hs; rintro _ w ⟨ak, q, o, p, l, Q, hs, rfl, hRz13_2, hRz13_4⟩
 refine oV (xM (v := .tuple #[.agg (cL16 e.1 e.2.1 q e.2.2.1.length o e.2.2.2.1 p e.2.2.2.2.1.length l).toArray, iN e.2.2.2.2.2]) rfl) rfl <| oV (xE (v := .agg (cL16 e.1 e.2.1 q e.2.2.1.length o e.2.2.2.1 p e.2.2.2.2.1.length l).toArray) rfl rfl) rfl <| oV (xE (v := iN e.2.2.2.2.2) rfl rfl) rfl <| ow_alloc hs ty81 rfl ?_
 clear hs; intro ab w hs
 refine oS (k := 0) (vs := (cL16 e.1 e.2.1 q e.2.2.1.length o e.2.2.2.1 p e.2.2.2.2.1.length l)) (cs' := (cL16 e.1 e.2.1 q e.2.2.1.length o e.2.2.2.1 p e.2.2.2.2.1.length l)) hs rfl rfl rfl ty81 rfl rfl (nLe rfl) rfl rfl ?_
 clear hs; intro w hs
 refine asI rfl <| oN <| sQR <| cR <| oL (k := 3) (vs := (cL1 j i h)) (v := .agg (cL1 j i h).toArray) hs rfl rfl ty46 rfl rfl rfl <| oL (k := 0) (vs := (cL16 e.1 e.2.1 q e.2.2.1.length o e.2.2.2.1 p e.2.2.2.2.1.length l)) (v := .agg (cL16 e.1 e.2.1 q e.2.2.1.length o e.2.2.2.1 p e.2.2.2.2.1.length l).toArray) hs rfl rfl ty81 rfl rfl rfl <| oL (k := 2) (vs := (cL0 z y t u.length s)) (v := .agg (cL0 z y t u.length s).toArray) hs rfl rfl ty26 rfl rfl rfl <| ow_buildSlice (vp := [(0, .agg (cL0 z y t u.length s).toArray)]) (cs := (cL0 z y t u.length s)) hs sl86 ty26 rfl ⟨rfl, rfl, trivial⟩ (by decide) rfl (by decide) ?_
 clear hs; intro ac aj w K hs Z
 obtain ⟨a, X, hm⟩ := bS hm
 replace M := M.mono (Q.trans K); replace hRz13_2 := hRz13_2.mono K; replace hRz13_4 := hRz13_4.mono K
 refine oC (fi := []) (vs := [.agg (cL1 j i h).toArray, .agg (cL16 e.1 e.2.1 q e.2.2.1.length o e.2.2.2.1 p e.2.2.2.2.1.length l).toArray, .slice ac 1 1]) (ca := []) rfl ⟨rfl, rfl, rfl, trivial⟩ en19 (f19_ok _ _ _ _ _ _ _ _ _ X hs hRz13_2 hRz13_4 ⟨_, Z, (NL.one ⟨t, s, rfl, M⟩)⟩) ?_
 clear hs; rintro _ w ⟨V, d, c, U, hs, rfl, hRz24_2⟩
 refine oV (xM (v := .tuple #[.agg (cL0 a.1 a.2.1 d a.2.2.1.length c).toArray, iN a.2.2.2]) rfl) rfl <| oV (xE (v := .agg (cL0 a.1 a.2.1 d a.2.2.1.length c).toArray) rfl rfl) rfl <| oV (xE (v := iN a.2.2.2) rfl rfl) rfl <| ow_alloc hs ty26 rfl ?_
 clear hs; intro aa w hs
 refine oS (k := 0) (vs := (cL0 a.1 a.2.1 d a.2.2.1.length c)) (cs' := (cL0 a.1 a.2.1 d a.2.2.1.length c)) hs rfl rfl rfl ty26 rfl rfl (nLe rfl) rfl rfl ?_
 clear hs; intro w hs
 refine asI rfl <| oN <| sQR <| cR <| oL (k := 0) (vs := (cL0 a.1 a.2.1 d a.2.2.1.length c)) (v := .agg (cL0 a.1 a.2.1 d a.2.2.1.length c).toArray) hs rfl rfl ty26 rfl rfl rfl <| mI rfl <| oV (x_eql rfl rfl) rfl <| mB rfl ?_
 obtain ⟨R, H, hm⟩ := bS hm
 refine oJN 3 (fun f ds w => ∃ (S : Im), ds = [] ∧ Im.le V S ∧ Sat S (blk aa 26 (cL0 a.1 a.2.1 d a.2.2.1.length c) :: blk ab 81 (cL16 e.1 e.2.1 q e.2.2.1.length o e.2.2.2.1 p e.2.2.2.2.1.length l) :: blk b7 26 (cL0 0 0 none 0 0) :: blk b5 26 (cL0 z y t u.length s) :: blk b3 46 (cL1 j i h) :: blk b1 33 (cL8 E D C B x.length A) :: F) w ∧ f 32 = .bool R ∧ f 6 = pQ b7 0 ∧ f 7 = .bool false ∧ f 26 = .agg (cL0 a.1 a.2.1 d a.2.2.1.length c).toArray) ?_ ?_
 · by_cases G : e.2.2.2.2.2 = 0
   · rw [if_pos G] at H
     refine oG (yO rfl rfl (dT G)) <| mI rfl <| oG (yO rfl rfl (dT G)) <| oV (x_eql rfl rfl) rfl <| oV (xPt (v := .bool (decide (a.2.2.2 = 0))) ((rfl : ev _ _ _ = _).trans (congrArg Value.bool (dT G))) rfl) rfl <| oN ?_
     obtain rfl := oJ H
     exact ⟨V, rfl, iR, hs, rfl, rfl, rfl, rfl⟩
   rw [if_neg G] at H
   refine oO (b := false) (yO rfl rfl (dF G)) rfl <| oO (b := false) (yO rfl rfl (dF G)) rfl <| oV (xPf (v := .bool false) ((rfl : ev _ _ _ = _).trans (congrArg Value.bool (dF G))) rfl) rfl <| oN ?_
   obtain rfl := oJ H
   exact ⟨V, rfl, iR, hs, rfl, rfl, rfl, rfl⟩
 clear H hs
 rintro f ds w ⟨S, rfl, O, hs, htbb27, L, W, N⟩
 refine oS (k := 2) (vs := (cL0 a.1 a.2.1 d a.2.2.1.length c)) (cs' := (cL0 a.1 a.2.1 d a.2.2.1.length c)) hs rfl L N ty26 rfl rfl (nLe rfl) rfl rfl ?_
 clear hs; intro w hs
 refine asB htbb27 <| oN <| sK <| cw_ret <| rK (rs := [.cell 6 26, .tmp 7]) (vs := [.agg (cL0 a.1 a.2.1 d a.2.2.1.length c).toArray, .bool R]) (.inr rfl) rfl ⟨⟨_, true, _, (cL0 a.1 a.2.1 d a.2.2.1.length c), L, ty26, CA_blk (off := 0) (m := 3) (hs.blk (k := 2) rfl), rfl, rfl⟩, rfl, trivial⟩ ?_
 obtain rfl := oJ hm
 replace hs := hs.erase 0
 replace hs := hs.erase 0
 replace hs := hs.erase 0
 replace hs := hs.erase 0
 replace hs := hs.erase 0
 replace hs := hs.erase 0
 replace hRz24_2 := hRz24_2.mono O
 exact ⟨S, d, c, (((Q.trans K).trans U).trans O), hs, rfl, hRz24_2⟩
def f6_l0 (u : Int) (t : Int) (j : List Int) : Nat → Int → (List Int) → Option (List Int)
  | 0, _, _ => none
  | k + 1, h, c => (if h < (w64 (u * t)) then (if 0 < (j.length : Int) then (if (j.length : Int) ≠ 0 then (if 0 ≤ (Int.tmod h (j.length : Int)) ∧ (Int.tmod h (j.length : Int)) < (j.length : Int) then (if c.length + [w64 ((at' j (Int.tmod h (j.length : Int))))].length ≤ 1099511627776 then (f6_l0 u t j k (w64 (h + 1)) (c ++ [w64 ((at' j (Int.tmod h (j.length : Int))))])) else none) else none) else none) else (if c.length + [0].length ≤ 1099511627776 then (f6_l0 u t j k (w64 (h + 1)) (c ++ [0])) else none)) else some c)
def f6_m (u : Int) (t : Int) (j : List Int) : Option (Int × Int × List Int) :=
  ((f6_l0 u t j FUEL 0 ([] : List Int)).bind fun (q : List Int) => some (u, t, q))
theorem f6_ok (u : Int) (t : Int) (j : List Int) {r : Int × Int × List Int} (hm : f6_m u t j = some r) {ak : Option Addr} {aj : Nat} {I : Im} {F : List HP} {w : World} (hs : Sat I (F) w) (U : Rs I 1 ak j.length aj (j.flatMap e8)) :
    CV P 6 (cL0 u t ak j.length aj) w fun v w' => ∃ (J : Im) (a2 : Option Addr) (c2 : Nat), Im.le I J ∧ Sat J (F) w' ∧ v = .agg (rL2 r a2 c2).toArray ∧ Rs J 1 a2 r.2.2.length c2 (r.2.2.flatMap e64) := by
 unfold f6_m at hm
 refine cv_of (n := 38) Proofs.Tryz.func6 rfl rfl (nLe rfl) <| cQ <| cR <| ow_alloc hs ty26 rfl ?_
 clear hs; intro b1 w hs
 refine oN <| sQR <| cR <| mI rfl <| mI rfl <| oU (vp := [(0, iN u), (1, iN t)]) (cs := (cL0 u t none 0 0)) st26 ty26 ⟨rfl, rfl, rfl, rfl, trivial⟩ rfl <| ow_alloc hs ty26 rfl ?_
 clear hs; intro b3 w hs
 refine oS (k := 0) (vs := (cL0 u t none 0 0)) (cs' := (cL0 u t none 0 0)) hs rfl rfl rfl ty26 rfl rfl (nLe rfl) rfl rfl ?_
 clear hs; intro w hs
 refine oN <| sK ?_
 replace hs := hs.pushNil 3 1
 obtain ⟨q, al, ae⟩ := bS hm
 replace hm := al; clear al
 refine cJ (fun f ds w => ∃ (e : Option Addr) (d : Nat) (T : Im), ds = [] ∧ Im.le I T ∧ Sat T (osl 3 1 e q.length d (q.flatMap e64) :: blk b3 26 (cL0 u t e q.length d) :: blk b1 26 (cL0 0 0 none 0 0) :: F) w ∧ f 6 = pQ b1 0 ∧ f 7 = pQ b3 0) ?_ ?_
 · refine cQ <| cR <| asI rfl <| oN <| sK <| cw_block ?_
   refine cL (S := fun k f ds w => ∃ (h : Int) (c : List Int), ∃ (e : Option Addr) (d : Nat) (L : Im), ds = [] ∧ Im.le I L ∧ f6_l0 u t j k h c = some q ∧ Sat L (osl 3 1 e c.length d (c.flatMap e64) :: blk b3 26 (cL0 u t e c.length d) :: blk b1 26 (cL0 0 0 none 0 0) :: F) w ∧ f 0 = iN u ∧ f 1 = iN t ∧ f 2 = .slice ak j.length aj ∧ f 6 = pQ b1 0 ∧ f 7 = pQ b3 0 ∧ f 8 = iN h) ?_ (k := FUEL) ⟨0, ([] : List Int), none, 0, I, rfl, iR, hm, hs, rfl, rfl, rfl, rfl, rfl, rfl⟩
   clear hm hs
   rintro k f ds w ⟨h, c, e, d, L, rfl, y, hm, hs, D, C, s, B, l, x⟩
   rcases k with _ | k
   · unfold f6_l0 at hm; cases hm
   unfold f6_l0 at hm
   refine cQ <| cQ <| cR <| mI x <| mI D <| mI C <| oV (x_mul rfl rfl) rfl <| oV (x_lss rfl rfl) rfl <| oN <| sK ?_
   by_cases G : h < (w64 (u * t))
   · rw [if_pos G] at hm
     refine cIt rfl (dT G) <| cw_skip <| sQR <| cw_block <| cQ <| cR <| asI rfl <| oN <| sQR <| cQ ?_
     refine cR <| mS s <| oV (x_len sl22 rfl) rfl <| oV (x_gtr rfl rfl) rfl <| oN <| sK ?_
     by_cases E : 0 < (j.length : Int)
     · rw [if_pos E] at hm
       refine cIt rfl (dT E) <| cR <| mS s <| mI x <| mS s <| oV (x_len sl22 rfl) rfl ?_
       have ah := (iS hm).1
       replace hm := (iS hm).2
       refine oV (x_rem rfl rfl ah) rfl ?_
       have z := (iS hm).1
       replace hm := (iS hm).2
       replace U := U.mono y
       refine oI (i := (Int.tmod h (j.length : Int))) sl22 ty5 rfl rfl z.1 z.2 (Rs.some U (by have := z; omega)) <| oLR (p := (Int.tmod h (j.length : Int)).toNat * 1) (vs := [.int .u8 (at' j (Int.tmod h (j.length : Int)))]) (v := .int .u8 (at' j (Int.tmod h (j.length : Int)))) hs U rfl ty5 (flat_at (enc := e8) (sz := 1) (fun _ => rfl) j (Int.tmod h (j.length : Int)) z.1 z.2 0 1 (by decide)) rfl rfl <| oV (x_conv (a := (at' j (Int.tmod h (j.length : Int)))) it5 it3 rfl) rfl <| asI rfl <| oN <| sK <| cR <| oF (b := b3) (o := 0) fl26_2 l <| ld1 (k := 1) hs rfl rfl ty24 rfl <| mI rfl <| ow_buildSlice (vp := [(0, iN (w64 ((at' j (Int.tmod h (j.length : Int))))))]) (cs := [iN (w64 ((at' j (Int.tmod h (j.length : Int)))))]) hs sl24 ty3 rfl ⟨rfl, rfl, trivial⟩ (by decide) rfl (by decide) ?_
       clear hs; intro an ad w aa hs K
       replace K : Rs ad 1 an [w64 ((at' j (Int.tmod h (j.length : Int))))].length 1 ([w64 ((at' j (Int.tmod h (j.length : Int))))].flatMap e64) := K
       have ag := (iS hm).1
       replace hm := (iS hm).2
       refine ow_appendT (k := 0) (enc := e64) (X := c) (Y := [w64 ((at' j (Int.tmod h (j.length : Int))))]) hs rfl sl24 ty3 el3 rfl rfl rfl K (fun _ => rfl) ag (by decide) ?_
       clear hs; intro R O w hs
       refine oF (b := b3) (o := 0) fl26_2 l <| oS (k := 1) (vs := [.slice R ((c ++ [w64 ((at' j (Int.tmod h (j.length : Int))))]).length) O]) (cs' := (cL0 u t R ((c ++ [w64 ((at' j (Int.tmod h (j.length : Int))))]).length) O)) hs rfl rfl rfl ty24 rfl rfl (nLe rfl) rfl rfl ?_
       clear hs; intro w hs
       refine oN <| blockK_n <| sK <| cR <| mI x <| oV (x_add rfl rfl) rfl <| asI rfl <| oN ?_
       exact lN ⟨k, Nat.lt_succ_self k, w64 (h + 1), c ++ [w64 ((at' j (Int.tmod h (j.length : Int))))], R, O, ad, rfl, (y.trans aa), hm, hs, D, C, s, B, l, rfl⟩
     rw [if_neg E] at hm
     refine cIf rfl (dF E) <| cw_skip <| sK <| cR <| oF (b := b3) (o := 0) fl26_2 l <| ld1 (k := 1) hs rfl rfl ty24 rfl <| mI rfl <| ow_buildSlice (vp := [(0, iN 0)]) (cs := [iN 0]) hs sl24 ty3 rfl ⟨rfl, rfl, trivial⟩ (by decide) rfl (by decide) ?_
     clear hs; intro am ac w Z hs H
     replace H : Rs ac 1 am [0].length 1 ([0].flatMap e64) := H
     have af := (iS hm).1
     replace hm := (iS hm).2
     refine ow_appendT (k := 0) (enc := e64) (X := c) (Y := [0]) hs rfl sl24 ty3 el3 rfl rfl rfl H (fun _ => rfl) af (by decide) ?_
     clear hs; intro Q N w hs
     refine oF (b := b3) (o := 0) fl26_2 l <| oS (k := 1) (vs := [.slice Q ((c ++ [0]).length) N]) (cs' := (cL0 u t Q ((c ++ [0]).length) N)) hs rfl rfl rfl ty24 rfl rfl (nLe rfl) rfl rfl ?_
     clear hs; intro w hs
     refine oN <| blockK_n <| sK <| cR <| mI x <| oV (x_add rfl rfl) rfl <| asI rfl <| oN ?_
     exact lN ⟨k, Nat.lt_succ_self k, w64 (h + 1), c ++ [0], Q, N, ac, rfl, (y.trans Z), hm, hs, D, C, s, B, l, rfl⟩
   rw [if_neg G] at hm
   refine cIf rfl (dF G) <| cw_exit <| seqK_x <| loopK_x <| blockK_hit ?_
   obtain rfl := oJ hm
   refine jN ⟨e, d, L, rfl, y, hs, B, l⟩
 clear hm hs
 rintro f ds w ⟨e, d, T, rfl, W, hs, A, M⟩
 replace hm := ae
 refine cQ <| cR <| oL (k := 1) (vs := (cL0 u t e q.length d)) (v := .agg (cL0 u t e q.length d).toArray) hs rfl M ty26 rfl rfl rfl <| oS (k := 2) (vs := (cL0 u t e q.length d)) (cs' := (cL0 u t e q.length d)) hs rfl A rfl ty26 rfl rfl (nLe rfl) rfl rfl ?_
 clear hs; intro w hs
 refine oN <| sK <| cw_ret <| rK (rs := [.cell 6 26]) (vs := [.agg (cL0 u t e q.length d).toArray]) (.inr rfl) rfl ⟨⟨_, true, _, (cL0 u t e q.length d), A, ty26, CA_blk (off := 0) (m := 3) (hs.blk (k := 2) rfl), rfl, rfl⟩, trivial⟩ ?_
 obtain rfl := oJ hm
 obtain ⟨ao, V, ai, hs⟩ := hs.freezeO
 replace hs := hs.erase 0
 replace hs := hs.erase 0
 exact ⟨ao, e, d, (W.trans V), hs, rfl, ai⟩
def f11_m (b : List Int) (c : Int) : Option Int :=
  (if (b.length : Int) = 0 then some 0 else (if (b.length : Int) ≠ 0 then (if 0 ≤ (Int.tmod c (b.length : Int)) ∧ (Int.tmod c (b.length : Int)) < (b.length : Int) then some (w64 ((at' b (Int.tmod c (b.length : Int))))) else none) else none))
theorem f11_ok (b : List Int) (c : Int) {r : Int} (hm : f11_m b c = some r) {j : Option Addr} {h : Nat} {I : Im} {F : List HP} {w : World} (hs : Sat I (F) w) (f : Rs I 1 j b.length h (b.flatMap enc28)) :
    CV P 11 [.slice j b.length h, iN c] w fun v w' => ∃ (J : Im), Im.le I J ∧ Sat J (F) w' ∧ v = iN r := by
 unfold f11_m at hm
 refine cv_of (n := 16) Proofs.Tryz.func11 rfl rfl (nLe rfl) <| cQ <| cR <| asI rfl <| oN <| sQR <| cQ <| cR <| mS rfl <| oV (x_len sl52 rfl) rfl <| oV (x_eql rfl rfl) rfl ?_
 refine oN <| sK ?_
 by_cases e : (b.length : Int) = 0
 · rw [if_pos e] at hm
   refine cIt rfl (dT e) <| cQ <| cR <| asI rfl <| oN <| sK <| cw_ret <| seqK_r <| rK (rs := [.tmp 4]) (vs := [iN 0]) (.inr rfl) rfl ⟨rfl, trivial⟩ ?_
   obtain rfl := oJ hm
   exact ⟨I, iR, hs, rfl⟩
 rw [if_neg e] at hm
 refine cIf rfl (dF e) <| cw_skip <| sQR <| cR <| mS rfl <| mI rfl <| mS rfl <| oV (x_len sl52 rfl) rfl ?_
 have k := (iS hm).1
 replace hm := (iS hm).2
 refine oV (x_rem rfl rfl k) rfl ?_
 have d := (iS hm).1
 replace hm := (iS hm).2
 refine oI (i := (Int.tmod c (b.length : Int))) sl52 ty28 rfl rfl d.1 d.2 (Rs.some f (by have := d; omega)) <| oLR (p := (Int.tmod c (b.length : Int)).toNat * 1) (vs := [.int .i8 (at' b (Int.tmod c (b.length : Int)))]) (v := .int .i8 (at' b (Int.tmod c (b.length : Int)))) hs f rfl ty28 (flat_at (enc := enc28) (sz := 1) (fun _ => rfl) b (Int.tmod c (b.length : Int)) d.1 d.2 0 1 (by decide)) rfl rfl <| oV (x_conv (a := (at' b (Int.tmod c (b.length : Int)))) it28 it3 rfl) rfl <| asI rfl <| oN <| sK <| cw_ret <| rK (rs := [.tmp 4]) (vs := [iN (w64 ((at' b (Int.tmod c (b.length : Int)))))]) (.inr rfl) rfl ⟨rfl, trivial⟩ ?_
 obtain rfl := oJ hm
 exact ⟨I, iR, hs, rfl⟩
def f10_m  : Option Bool :=
  ((f20_m 2 1 [90, 80] 0 90 110 0 5).bind fun a => ((f8_m 2 1 1 ([(5, 0, 0, 0, 0, 0, 0, 0, 0, 0, 0, ([] : List Int), 0, 3, 1, [true, true, true])] : List (T2x)) 1 2 4 a.1 a.2.1 a.2.2.1).bind fun c => ((f8_m 2 1 1 ([(5, 0, 0, 0, 0, 0, 0, 0, 0, 0, 0, ([] : List Int), 0, 3, 1, [true, true, true])] : List (T2x)) 2 2 4 a.2.2.2.1 a.2.2.2.2.1 a.2.2.2.2.2.1).bind fun d => ((f13_m 2 1 1 1 ([(([[1]] : List (List Int)), [0])] : List (List (List Int) × List Int)) 10 100 c.1 c.2.1 c.2.2.1 d.1 d.2.1 d.2.2.1 0).bind fun G => ((if a.2.2.2.2.2.2 = 0 then some c.2.2.2 else some false).bind fun a2 => ((if a2 = true then some d.2.2.2 else some false).bind fun a1 => ((if a1 = true then some (decide (G.2 = 0)) else some false).bind fun a0 => ((if a0 = true then some (decide (G.1 = 1)) else some false).bind fun aZ => ((if aZ = true then some (decide ((c.2.2.1.length : Int) = 2)) else some false).bind fun aY => ((if aY = true then (if 0 ≤ (0 : Int) ∧ (0 : Int) < (c.2.2.1.length : Int) then some (decide ((at' c.2.2.1 (0 : Int)) = 67)) else none) else some false).bind fun aX => ((if aX = true then (if 0 ≤ (1 : Int) ∧ (1 : Int) < (c.2.2.1.length : Int) then some (decide ((at' c.2.2.1 (1 : Int)) = 67)) else none) else some false).bind fun aW => some aW)))))))))))
theorem f10_ok  {r : Bool} (hm : f10_m  = some r)  {I : Im} {F : List HP} {w : World} (hs : Sat I (F) w)  :
    CV P 10 [] w fun v w' => ∃ (J : Im), Im.le I J ∧ Sat J (F) w' ∧ v = .bool r := by
 unfold f10_m at hm
 refine cv_of (n := 88) Proofs.Tryz.func10 rfl rfl (nLe rfl) <| cQ <| cR <| asB rfl <| oN <| sQR <| cR <| ow_buildSlice (vp := [(0, .bool true), (1, .bool true), (2, .bool true)]) (cs := (cL20 true true true)) hs sl38 ty4 rfl ⟨rfl, rfl, rfl, rfl, rfl, rfl, trivial⟩ (by decide) rfl (by decide) ?_
 clear hs; intro a3 J1 w bi hs ao
 replace ao : Rs J1 1 a3 [true, true, true].length 3 ([true, true, true].flatMap eB) := ao
 refine oU (vp := [(0, iN 3), (1, iN 1), (2, .slice a3 ([true, true, true].length) 3)]) (cs := (cL0 3 1 a3 ([true, true, true].length) 3)) st40 ty40 ⟨rfl, rfl, rfl, rfl, rfl, rfl, trivial⟩ rfl <| oU (vp := [(0, .int .u8 5), (7, .agg (cL0 3 1 a3 ([true, true, true].length) 3).toArray)]) (cs := (cL9 5 0 0 0 0 0 0 0 0 0 0 none 0 0 0 3 1 a3 ([true, true, true].length) 3)) st42 ty42 ⟨rfl, rfl, rfl, rfl, trivial⟩ rfl <| ow_buildSlice (vp := [(0, .agg (cL9 5 0 0 0 0 0 0 0 0 0 0 none 0 0 0 3 1 a3 ([true, true, true].length) 3).toArray)]) (cs := (cL9 5 0 0 0 0 0 0 0 0 0 0 none 0 0 0 3 1 a3 ([true, true, true].length) 3)) hs sl31 ty42 rfl ⟨rfl, rfl, trivial⟩ (by decide) rfl (by decide) ?_
 clear hs; intro a7 J5 w a9 hs aH
 refine oU (vp := [(0, iN 2), (1, iN 1), (2, iN 1), (3, .slice a7 1 1)]) (cs := (cL8 2 1 1 a7 1 1)) st33 ty33 ⟨rfl, rfl, rfl, rfl, rfl, rfl, rfl, rfl, trivial⟩ rfl <| ow_alloc hs ty33 rfl ?_
 clear hs; intro b9 w hs
 refine oS (k := 0) (vs := (cL8 2 1 1 a7 1 1)) (cs' := (cL8 2 1 1 a7 1 1)) hs rfl rfl rfl ty33 rfl rfl (nLe rfl) rfl rfl ?_
 clear hs; intro w hs
 refine oN <| sQR <| cR <| ow_buildSlice (vp := [(0, iN 1)]) (cs := [iN 1]) hs sl24 ty3 rfl ⟨rfl, rfl, trivial⟩ (by decide) rfl (by decide) ?_
 clear hs; intro a6 bl w aA hs aq
 replace aq : Rs bl 1 a6 [1].length 1 ([1].flatMap e64) := aq
 refine ow_buildSlice (vp := [(0, .slice a6 ([1].length) 1)]) (cs := [.slice a6 ([1].length) 1]) hs sl57 ty24 rfl ⟨rfl, rfl, trivial⟩ (by decide) rfl (by decide) ?_
 clear hs; intro aV bq w ac hs aU
 refine ow_buildSlice (vp := [(0, iN 0)]) (cs := [iN 0]) hs sl24 ty3 rfl ⟨rfl, rfl, trivial⟩ (by decide) rfl (by decide) ?_
 clear hs; intro aI bk w W hs ap
 replace ap : Rs bk 1 aI [0].length 1 ([0].flatMap e64) := ap
 refine oU (vp := [(0, .slice aV 1 1), (1, .slice aI ([0].length) 1)]) (cs := [.slice aV 1 1, .slice aI ([0].length) 1]) st59 ty59 ⟨rfl, rfl, rfl, rfl, trivial⟩ rfl <| ow_buildSlice (vp := [(0, .agg #[.slice aV 1 1, .slice aI ([0].length) 1])]) (cs := [.slice aV 1 1, .slice aI ([0].length) 1]) hs sl54 ty59 rfl ⟨rfl, rfl, trivial⟩ (by decide) rfl (by decide) ?_
 clear hs; intro H bp w L hs aT
 refine oU (vp := [(0, iN 2), (1, iN 1), (2, iN 1), (3, iN 1), (4, .slice H 1 1), (5, iN 10), (6, iN 100)]) (cs := (cL4 2 1 1 1 H 1 1 10 100)) st56 ty56 ⟨rfl, rfl, rfl, rfl, rfl, rfl, rfl, rfl, rfl, rfl, rfl, rfl, rfl, rfl, trivial⟩ rfl <| ow_alloc hs ty56 rfl ?_
 clear hs; intro aE w hs
 refine oS (k := 0) (vs := (cL4 2 1 1 1 H 1 1 10 100)) (cs' := (cL4 2 1 1 1 H 1 1 10 100)) hs rfl rfl rfl ty56 rfl rfl (nLe rfl) rfl rfl ?_
 clear hs; intro w hs
 refine oN <| sQR <| cR <| ow_buildSlice (vp := [(0, iN 90), (1, iN 80)]) (cs := [iN 90, iN 80]) hs sl24 ty3 rfl ⟨rfl, rfl, rfl, rfl, trivial⟩ (by decide) rfl (by decide) ?_
 clear hs; intro a4 bj w E hs aS
 replace aS : Rs bj 1 a4 [90, 80].length 2 ([90, 80].flatMap e64) := aS
 refine oU (vp := [(0, iN 2), (1, iN 1), (2, .slice a4 ([90, 80].length) 2)]) (cs := (cL0 2 1 a4 ([90, 80].length) 2)) st26 ty26 ⟨rfl, rfl, rfl, rfl, rfl, rfl, trivial⟩ rfl <| oU (vp := [(1, iN 90), (2, iN 110), (4, iN 5)]) (cs := (cL3 0 90 110 0 5)) st90 ty90 ⟨rfl, rfl, rfl, rfl, rfl, rfl, trivial⟩ rfl ?_
 obtain ⟨a, bh, hm⟩ := bS hm
 refine oC (fi := []) (vs := [.agg (cL0 2 1 a4 ([90, 80].length) 2).toArray, .agg (cL3 0 90 110 0 5).toArray]) (ca := []) rfl ⟨rfl, rfl, trivial⟩ en20 (f20_ok _ _ _ _ _ _ _ _ bh hs aS) ?_
 clear hs; rintro _ w ⟨bo, t, l, s, j, D, hs, rfl, hRz37_2, hRz37_5⟩
 refine oV (xM (v := .tuple #[.agg (cL0 a.1 a.2.1 t a.2.2.1.length l).toArray, .agg (cL0 a.2.2.2.1 a.2.2.2.2.1 s a.2.2.2.2.2.1.length j).toArray, iN a.2.2.2.2.2.2]) rfl) rfl <| oV (xE (v := .agg (cL0 a.1 a.2.1 t a.2.2.1.length l).toArray) rfl rfl) rfl <| oV (xE (v := .agg (cL0 a.2.2.2.1 a.2.2.2.2.1 s a.2.2.2.2.2.1.length j).toArray) rfl rfl) rfl <| oV (xE (v := iN a.2.2.2.2.2.2) rfl rfl) rfl <| ow_alloc hs ty26 rfl ?_
 clear hs; intro aD w hs
 refine ow_alloc hs ty26 rfl ?_
 clear hs; intro aC w hs
 refine oS (k := 1) (vs := (cL0 a.1 a.2.1 t a.2.2.1.length l)) (cs' := (cL0 a.1 a.2.1 t a.2.2.1.length l)) hs rfl rfl rfl ty26 rfl rfl (nLe rfl) rfl rfl ?_
 clear hs; intro w hs
 refine oS (k := 0) (vs := (cL0 a.2.2.2.1 a.2.2.2.2.1 s a.2.2.2.2.2.1.length j)) (cs' := (cL0 a.2.2.2.1 a.2.2.2.2.1 s a.2.2.2.2.2.1.length j)) hs rfl rfl rfl ty26 rfl rfl (nLe rfl) rfl rfl ?_
 clear hs; intro w hs
 refine asI rfl <| oN <| sQR <| cR <| oL (k := 3) (vs := (cL8 2 1 1 a7 1 1)) (v := .agg (cL8 2 1 1 a7 1 1).toArray) hs rfl rfl ty33 rfl rfl rfl <| oU (vp := [(0, iN 1), (1, iN 2), (2, iN 4)]) (cs := (cL1 1 2 4)) st46 ty46 ⟨rfl, rfl, rfl, rfl, rfl, rfl, trivial⟩ rfl <| oL (k := 1) (vs := (cL0 a.1 a.2.1 t a.2.2.1.length l)) (v := .agg (cL0 a.1 a.2.1 t a.2.2.1.length l).toArray) hs rfl rfl ty26 rfl rfl rfl ?_
 obtain ⟨c, bg, hm⟩ := bS hm
 replace ao := ao.mono ((((((a9.trans aA).trans ac).trans W).trans L).trans E).trans D); replace aH := aH.mono (((((aA.trans ac).trans W).trans L).trans E).trans D)
 refine oC (fi := []) (vs := [.agg (cL8 2 1 1 a7 1 1).toArray, .agg (cL1 1 2 4).toArray, .agg (cL0 a.1 a.2.1 t a.2.2.1.length l).toArray]) (ca := []) rfl ⟨rfl, rfl, rfl, trivial⟩ en8 (f8_ok _ _ _ _ _ _ _ _ _ _ bg hs ⟨_, aH, (NL.one ⟨none, 0, a3, 3, rfl, (Rs.nil _ _ _), ao⟩)⟩ hRz37_2) ?_
 clear hs; rintro _ w ⟨bn, q, h, B, hs, rfl, hRz46_2⟩
 refine oV (xM (v := .tuple #[.agg (cL0 c.1 c.2.1 q c.2.2.1.length h).toArray, .bool c.2.2.2]) rfl) rfl <| oV (xE (v := .agg (cL0 c.1 c.2.1 q c.2.2.1.length h).toArray) rfl rfl) rfl <| oV (xE (v := .bool c.2.2.2) rfl rfl) rfl <| ow_alloc hs ty26 rfl ?_
 clear hs; intro C w hs
 refine oS (k := 0) (vs := (cL0 c.1 c.2.1 q c.2.2.1.length h)) (cs' := (cL0 c.1 c.2.1 q c.2.2.1.length h)) hs rfl rfl rfl ty26 rfl rfl (nLe rfl) rfl rfl ?_
 clear hs; intro w hs
 refine asB rfl <| oN <| sQR <| cR <| oL (k := 4) (vs := (cL8 2 1 1 a7 1 1)) (v := .agg (cL8 2 1 1 a7 1 1).toArray) hs rfl rfl ty33 rfl rfl rfl <| oU (vp := [(0, iN 2), (1, iN 2), (2, iN 4)]) (cs := (cL1 2 2 4)) st46 ty46 ⟨rfl, rfl, rfl, rfl, rfl, rfl, trivial⟩ rfl <| oL (k := 1) (vs := (cL0 a.2.2.2.1 a.2.2.2.2.1 s a.2.2.2.2.2.1.length j)) (v := .agg (cL0 a.2.2.2.1 a.2.2.2.2.1 s a.2.2.2.2.2.1.length j).toArray) hs rfl rfl ty26 rfl rfl rfl ?_
 obtain ⟨d, bf, hm⟩ := bS hm
 replace ao := ao.mono B; replace aH := aH.mono B; replace hRz37_5 := hRz37_5.mono B
 refine oC (fi := []) (vs := [.agg (cL8 2 1 1 a7 1 1).toArray, .agg (cL1 2 2 4).toArray, .agg (cL0 a.2.2.2.1 a.2.2.2.2.1 s a.2.2.2.2.2.1.length j).toArray]) (ca := []) rfl ⟨rfl, rfl, rfl, trivial⟩ en8 (f8_ok _ _ _ _ _ _ _ _ _ _ bf hs ⟨_, aH, (NL.one ⟨none, 0, a3, 3, rfl, (Rs.nil _ _ _), ao⟩)⟩ hRz37_5) ?_
 clear hs; rintro _ w ⟨bm, m, e, K, hs, rfl, hRz53_2⟩
 refine oV (xM (v := .tuple #[.agg (cL0 d.1 d.2.1 m d.2.2.1.length e).toArray, .bool d.2.2.2]) rfl) rfl <| oV (xE (v := .agg (cL0 d.1 d.2.1 m d.2.2.1.length e).toArray) rfl rfl) rfl <| oV (xE (v := .bool d.2.2.2) rfl rfl) rfl <| ow_alloc hs ty26 rfl ?_
 clear hs; intro aB w hs
 refine oS (k := 0) (vs := (cL0 d.1 d.2.1 m d.2.2.1.length e)) (cs' := (cL0 d.1 d.2.1 m d.2.2.1.length e)) hs rfl rfl rfl ty26 rfl rfl (nLe rfl) rfl rfl ?_
 clear hs; intro w hs
 refine asB rfl <| oN <| sQR <| cR <| oL (k := 4) (vs := (cL4 2 1 1 1 H 1 1 10 100)) (v := .agg (cL4 2 1 1 1 H 1 1 10 100).toArray) hs rfl rfl ty56 rfl rfl rfl <| oL (k := 1) (vs := (cL0 c.1 c.2.1 q c.2.2.1.length h)) (v := .agg (cL0 c.1 c.2.1 q c.2.2.1.length h).toArray) hs rfl rfl ty26 rfl rfl rfl <| oL (k := 0) (vs := (cL0 d.1 d.2.1 m d.2.2.1.length e)) (v := .agg (cL0 d.1 d.2.1 m d.2.2.1.length e).toArray) hs rfl rfl ty26 rfl rfl rfl ?_
 obtain ⟨G, be, hm⟩ := bS hm
 replace aq := aq.mono ((((((ac.trans W).trans L).trans E).trans D).trans B).trans K); replace aU := aU.mono (((((W.trans L).trans E).trans D).trans B).trans K); replace ap := ap.mono ((((L.trans E).trans D).trans B).trans K); replace aT := aT.mono (((E.trans D).trans B).trans K); replace hRz46_2 := hRz46_2.mono K
 refine oC (fi := []) (vs := [.agg (cL4 2 1 1 1 H 1 1 10 100).toArray, .agg (cL0 c.1 c.2.1 q c.2.2.1.length h).toArray, .agg (cL0 d.1 d.2.1 m d.2.2.1.length e).toArray, iN 0]) (ca := []) rfl ⟨rfl, rfl, rfl, rfl, trivial⟩ en13 (f13_ok _ _ _ _ _ _ _ _ _ _ _ _ _ _ be hs ⟨_, aT, (NL.one ⟨aV, 1, aI, 1, rfl, ⟨_, aU, (NL.one ⟨a6, 1, rfl, aq⟩)⟩, ap⟩)⟩ hRz46_2 hRz53_2) ?_
 clear hs; rintro _ w ⟨bc, az, hs, rfl⟩
 refine oV (xM (v := .tuple #[.int .u8 G.1, iN G.2]) rfl) rfl <| oV (xE (v := .int .u8 G.1) rfl rfl) rfl <| oV (xE (v := iN G.2) rfl rfl) rfl <| asI rfl <| asI rfl <| oN <| sQR <| cR <| mI rfl <| oV (x_eql rfl rfl) rfl <| mB rfl ?_
 obtain ⟨a2, V, hm⟩ := bS hm
 refine oJN 2 (fun f ds w => ∃ (aO : Im), ds = [] ∧ Im.le bc aO ∧ Sat aO (blk aB 26 (cL0 d.1 d.2.1 m d.2.2.1.length e) :: blk C 26 (cL0 c.1 c.2.1 q c.2.2.1.length h) :: blk aC 26 (cL0 a.2.2.2.1 a.2.2.2.2.1 s a.2.2.2.2.2.1.length j) :: blk aD 26 (cL0 a.1 a.2.1 t a.2.2.1.length l) :: blk aE 56 (cL4 2 1 1 1 H 1 1 10 100) :: blk b9 33 (cL8 2 1 1 a7 1 1) :: F) w ∧ f 56 = .bool a2 ∧ f 0 = .bool false ∧ f 6 = pQ C 0 ∧ f 9 = .bool d.2.2.2 ∧ f 10 = .int .u8 G.1 ∧ f 11 = iN G.2) ?_ ?_
 · by_cases ab : a.2.2.2.2.2.2 = 0
   · rw [if_pos ab] at V
     refine oG (yO rfl rfl (dT ab)) <| mB rfl <| oV (xPt (v := .bool c.2.2.2) ((rfl : ev _ _ _ = _).trans (congrArg Value.bool (dT ab))) rfl) rfl <| oN ?_
     obtain rfl := oJ V
     exact ⟨bc, rfl, iR, hs, rfl, rfl, rfl, rfl, rfl, rfl⟩
   rw [if_neg ab] at V
   refine oO (b := false) (yO rfl rfl (dF ab)) rfl <| oV (xPf (v := .bool false) ((rfl : ev _ _ _ = _).trans (congrArg Value.bool (dF ab))) rfl) rfl <| oN ?_
   obtain rfl := oJ V
   exact ⟨bc, rfl, iR, hs, rfl, rfl, rfl, rfl, rfl, rfl⟩
 clear V hs
 rintro f ds w ⟨aO, rfl, ay, hs, htbb61, al, af, aP, Z, X⟩
 refine mB htbb61 ?_
 obtain ⟨a1, U, hm⟩ := bS hm
 refine oJN 2 (fun f ds w => ∃ (aN : Im), ds = [] ∧ Im.le aO aN ∧ Sat aN (blk aB 26 (cL0 d.1 d.2.1 m d.2.2.1.length e) :: blk C 26 (cL0 c.1 c.2.1 q c.2.2.1.length h) :: blk aC 26 (cL0 a.2.2.2.1 a.2.2.2.2.1 s a.2.2.2.2.2.1.length j) :: blk aD 26 (cL0 a.1 a.2.1 t a.2.2.1.length l) :: blk aE 56 (cL4 2 1 1 1 H 1 1 10 100) :: blk b9 33 (cL8 2 1 1 a7 1 1) :: F) w ∧ f 59 = .bool a1 ∧ f 0 = .bool false ∧ f 6 = pQ C 0 ∧ f 10 = .int .u8 G.1 ∧ f 11 = iN G.2) ?_ ?_
 · by_cases aa : a2 = true
   · rw [if_pos aa] at U
     refine oG (yO rfl rfl aa) <| mB aP <| oV (xPt (v := .bool d.2.2.2) ((rfl : ev _ _ _ = _).trans (congrArg Value.bool aa)) rfl) rfl <| oN ?_
     obtain rfl := oJ U
     exact ⟨aO, rfl, iR, hs, rfl, al, af, Z, X⟩
   rw [if_neg aa] at U
   refine oO (b := false) (yO rfl rfl (bF aa)) rfl <| oV (xPf (v := .bool false) ((rfl : ev _ _ _ = _).trans (congrArg Value.bool (bF aa))) rfl) rfl <| oN ?_
   obtain rfl := oJ U
   exact ⟨aO, rfl, iR, hs, rfl, al, af, Z, X⟩
 clear U hs
 rintro f ds w ⟨aN, rfl, ax, hs, htbb65, ak, ae, Y, aF⟩
 refine mB htbb65 ?_
 obtain ⟨a0, T, hm⟩ := bS hm
 refine oJN 3 (fun f ds w => ∃ (aM : Im), ds = [] ∧ Im.le aN aM ∧ Sat aM (blk aB 26 (cL0 d.1 d.2.1 m d.2.2.1.length e) :: blk C 26 (cL0 c.1 c.2.1 q c.2.2.1.length h) :: blk aC 26 (cL0 a.2.2.2.1 a.2.2.2.2.1 s a.2.2.2.2.2.1.length j) :: blk aD 26 (cL0 a.1 a.2.1 t a.2.2.1.length l) :: blk aE 56 (cL4 2 1 1 1 H 1 1 10 100) :: blk b9 33 (cL8 2 1 1 a7 1 1) :: F) w ∧ f 63 = .bool a0 ∧ f 0 = .bool false ∧ f 6 = pQ C 0 ∧ f 10 = .int .u8 G.1) ?_ ?_
 · by_cases N : a1 = true
   · rw [if_pos N] at T
     refine oG (yO rfl rfl N) <| mI aF <| oG (yO rfl rfl N) <| oV (x_eql rfl rfl) rfl <| oV (xPt (v := .bool (decide (G.2 = 0))) ((rfl : ev _ _ _ = _).trans (congrArg Value.bool N)) rfl) rfl <| oN ?_
     obtain rfl := oJ T
     exact ⟨aN, rfl, iR, hs, rfl, ak, ae, Y⟩
   rw [if_neg N] at T
   refine oO (b := false) (yO rfl rfl (bF N)) rfl <| oO (b := false) (yO rfl rfl (bF N)) rfl <| oV (xPf (v := .bool false) ((rfl : ev _ _ _ = _).trans (congrArg Value.bool (bF N))) rfl) rfl <| oN ?_
   obtain rfl := oJ T
   exact ⟨aN, rfl, iR, hs, rfl, ak, ae, Y⟩
 clear T hs
 rintro f ds w ⟨aM, rfl, aw, hs, htbb69, aj, ad, aG⟩
 refine mB htbb69 ?_
 obtain ⟨aZ, S, hm⟩ := bS hm
 refine oJN 3 (fun f ds w => ∃ (aL : Im), ds = [] ∧ Im.le aM aL ∧ Sat aL (blk aB 26 (cL0 d.1 d.2.1 m d.2.2.1.length e) :: blk C 26 (cL0 c.1 c.2.1 q c.2.2.1.length h) :: blk aC 26 (cL0 a.2.2.2.1 a.2.2.2.2.1 s a.2.2.2.2.2.1.length j) :: blk aD 26 (cL0 a.1 a.2.1 t a.2.2.1.length l) :: blk aE 56 (cL4 2 1 1 1 H 1 1 10 100) :: blk b9 33 (cL8 2 1 1 a7 1 1) :: F) w ∧ f 67 = .bool aZ ∧ f 0 = .bool false ∧ f 6 = pQ C 0) ?_ ?_
 · by_cases M : a0 = true
   · rw [if_pos M] at S
     refine oG (yO rfl rfl M) <| mI aG <| oG (yO rfl rfl M) <| oV (x_eql rfl rfl) rfl <| oV (xPt (v := .bool (decide (G.1 = 1))) ((rfl : ev _ _ _ = _).trans (congrArg Value.bool M)) rfl) rfl <| oN ?_
     obtain rfl := oJ S
     exact ⟨aM, rfl, iR, hs, rfl, aj, ad⟩
   rw [if_neg M] at S
   refine oO (b := false) (yO rfl rfl (bF M)) rfl <| oO (b := false) (yO rfl rfl (bF M)) rfl <| oV (xPf (v := .bool false) ((rfl : ev _ _ _ = _).trans (congrArg Value.bool (bF M))) rfl) rfl <| oN ?_
   obtain rfl := oJ S
   exact ⟨aM, rfl, iR, hs, rfl, aj, ad⟩
 clear S hs
 rintro f ds w ⟨aL, rfl, av, hs, htbb73, ai, Q⟩
 refine mB htbb73 ?_
 obtain ⟨aY, R, hm⟩ := bS hm
 refine oJN 5 (fun f ds w => ∃ (aK : Im), ds = [] ∧ Im.le aL aK ∧ Sat aK (blk aB 26 (cL0 d.1 d.2.1 m d.2.2.1.length e) :: blk C 26 (cL0 c.1 c.2.1 q c.2.2.1.length h) :: blk aC 26 (cL0 a.2.2.2.1 a.2.2.2.2.1 s a.2.2.2.2.2.1.length j) :: blk aD 26 (cL0 a.1 a.2.1 t a.2.2.1.length l) :: blk aE 56 (cL4 2 1 1 1 H 1 1 10 100) :: blk b9 33 (cL8 2 1 1 a7 1 1) :: F) w ∧ f 73 = .bool aY ∧ f 0 = .bool false ∧ f 6 = pQ C 0) ?_ ?_
 · by_cases y : aZ = true
   · rw [if_pos y] at R
     refine oG (yO rfl rfl y) <| oF (b := C) (o := 0) fl26_2 Q <| oG (yO rfl rfl y) <| ld1 (k := 1) hs rfl rfl ty24 rfl <| oG (yO rfl rfl y) <| oV (x_len sl24 rfl) rfl <| oG (yO rfl rfl y) <| oV (x_eql rfl rfl) rfl <| oV (xPt (v := .bool (decide ((c.2.2.1.length : Int) = 2))) ((rfl : ev _ _ _ = _).trans (congrArg Value.bool y)) rfl) rfl <| oN ?_
     obtain rfl := oJ R
     exact ⟨aL, rfl, iR, hs, rfl, ai, Q⟩
   rw [if_neg y] at R
   refine oO (b := false) (yO rfl rfl (bF y)) rfl <| oO (b := false) (yO rfl rfl (bF y)) rfl <| oO (b := false) (yO rfl rfl (bF y)) rfl <| oO (b := false) (yO rfl rfl (bF y)) rfl <| oV (xPf (v := .bool false) ((rfl : ev _ _ _ = _).trans (congrArg Value.bool (bF y))) rfl) rfl <| oN ?_
   obtain rfl := oJ R
   exact ⟨aL, rfl, iR, hs, rfl, ai, Q⟩
 clear R hs
 rintro f ds w ⟨aK, rfl, au, hs, htbb77, ah, O⟩
 refine mB htbb77 ?_
 obtain ⟨aX, A, hm⟩ := bS hm
 refine oJN 6 (fun f ds w => ∃ (aJ : Im), ds = [] ∧ Im.le aK aJ ∧ Sat aJ (blk aB 26 (cL0 d.1 d.2.1 m d.2.2.1.length e) :: blk C 26 (cL0 c.1 c.2.1 q c.2.2.1.length h) :: blk aC 26 (cL0 a.2.2.2.1 a.2.2.2.2.1 s a.2.2.2.2.2.1.length j) :: blk aD 26 (cL0 a.1 a.2.1 t a.2.2.1.length l) :: blk aE 56 (cL4 2 1 1 1 H 1 1 10 100) :: blk b9 33 (cL8 2 1 1 a7 1 1) :: F) w ∧ f 80 = .bool aX ∧ f 0 = .bool false ∧ f 6 = pQ C 0) ?_ ?_
 · by_cases x : aY = true
   · rw [if_pos x] at A
     refine oG (yO rfl rfl x) <| oF (b := C) (o := 0) fl26_2 O <| oG (yO rfl rfl x) <| ld1 (k := 1) hs rfl rfl ty24 rfl <| oG (yO rfl rfl x) ?_
     have an := (iS A).1
     replace A := (iS A).2
     replace hRz46_2 := hRz46_2.mono (((((az.trans ay).trans ax).trans aw).trans av).trans au)
     refine oI (i := (0 : Int)) sl24 ty3 rfl rfl an.1 an.2 (Rs.some hRz46_2 (by have := an; omega)) <| oG (yO rfl rfl x) <| oLR (p := (0 : Int).toNat * 1) (vs := [iN (at' c.2.2.1 (0 : Int))]) (v := iN (at' c.2.2.1 (0 : Int))) hs hRz46_2 rfl ty3 (flat_at (enc := e64) (sz := 1) (fun _ => rfl) c.2.2.1 (0 : Int) an.1 an.2 0 1 (by decide)) rfl rfl <| oG (yO rfl rfl x) <| oV (x_eql rfl rfl) rfl <| oV (xPt (v := .bool (decide ((at' c.2.2.1 (0 : Int)) = 67))) ((rfl : ev _ _ _ = _).trans (congrArg Value.bool x)) rfl) rfl <| oN ?_
     obtain rfl := oJ A
     exact ⟨aK, rfl, iR, hs, rfl, ah, O⟩
   rw [if_neg x] at A
   refine oO (b := false) (yO rfl rfl (bF x)) rfl <| oO (b := false) (yO rfl rfl (bF x)) rfl <| oO (b := false) (yO rfl rfl (bF x)) rfl <| oO (b := false) (yO rfl rfl (bF x)) rfl <| oO (b := false) (yO rfl rfl (bF x)) rfl <| oV (xPf (v := .bool false) ((rfl : ev _ _ _ = _).trans (congrArg Value.bool (bF x))) rfl) rfl <| oN ?_
   obtain rfl := oJ A
   exact ⟨aK, rfl, iR, hs, rfl, ah, O⟩
 clear A hs
 rintro f ds w ⟨aJ, rfl, aR, hs, htbb81, ag, aQ⟩
 refine mB htbb81 ?_
 obtain ⟨aW, z, hm⟩ := bS hm
 refine oJN 6 (fun f ds w => ∃ (a8 : Im), ds = [] ∧ Im.le aJ a8 ∧ Sat a8 (blk aB 26 (cL0 d.1 d.2.1 m d.2.2.1.length e) :: blk C 26 (cL0 c.1 c.2.1 q c.2.2.1.length h) :: blk aC 26 (cL0 a.2.2.2.1 a.2.2.2.2.1 s a.2.2.2.2.2.1.length j) :: blk aD 26 (cL0 a.1 a.2.1 t a.2.2.1.length l) :: blk aE 56 (cL4 2 1 1 1 H 1 1 10 100) :: blk b9 33 (cL8 2 1 1 a7 1 1) :: F) w ∧ f 87 = .bool aW ∧ f 0 = .bool false) ?_ ?_
 · by_cases u : aX = true
   · rw [if_pos u] at z
     refine oG (yO rfl rfl u) <| oF (b := C) (o := 0) fl26_2 aQ <| oG (yO rfl rfl u) <| ld1 (k := 1) hs rfl rfl ty24 rfl <| oG (yO rfl rfl u) ?_
     have am := (iS z).1
     replace z := (iS z).2
     replace hRz46_2 := hRz46_2.mono ((((((az.trans ay).trans ax).trans aw).trans av).trans au).trans aR)
     refine oI (i := (1 : Int)) sl24 ty3 rfl rfl am.1 am.2 (Rs.some hRz46_2 (by have := am; omega)) <| oG (yO rfl rfl u) <| oLR (p := (1 : Int).toNat * 1) (vs := [iN (at' c.2.2.1 (1 : Int))]) (v := iN (at' c.2.2.1 (1 : Int))) hs hRz46_2 rfl ty3 (flat_at (enc := e64) (sz := 1) (fun _ => rfl) c.2.2.1 (1 : Int) am.1 am.2 0 1 (by decide)) rfl rfl <| oG (yO rfl rfl u) <| oV (x_eql rfl rfl) rfl <| oV (xPt (v := .bool (decide ((at' c.2.2.1 (1 : Int)) = 67))) ((rfl : ev _ _ _ = _).trans (congrArg Value.bool u)) rfl) rfl <| oN ?_
     obtain rfl := oJ z
     exact ⟨aJ, rfl, iR, hs, rfl, ag⟩
   rw [if_neg u] at z
   refine oO (b := false) (yO rfl rfl (bF u)) rfl <| oO (b := false) (yO rfl rfl (bF u)) rfl <| oO (b := false) (yO rfl rfl (bF u)) rfl <| oO (b := false) (yO rfl rfl (bF u)) rfl <| oO (b := false) (yO rfl rfl (bF u)) rfl <| oV (xPf (v := .bool false) ((rfl : ev _ _ _ = _).trans (congrArg Value.bool (bF u))) rfl) rfl <| oN ?_
   obtain rfl := oJ z
   exact ⟨aJ, rfl, iR, hs, rfl, ag⟩
 clear z hs
 rintro f ds w ⟨a8, rfl, ba, hs, htbb86, bd⟩
 refine asB htbb86 <| oN <| sK <| cw_ret <| rK (rs := [.tmp 0]) (vs := [.bool aW]) (.inr rfl) rfl ⟨rfl, trivial⟩ ?_
 obtain rfl := oJ hm
 replace hs := hs.erase 0
 replace hs := hs.erase 0
 replace hs := hs.erase 0
 replace hs := hs.erase 0
 replace hs := hs.erase 0
 replace hs := hs.erase 0
 exact ⟨a8, (((((((((((((((((bi.trans a9).trans aA).trans ac).trans W).trans L).trans E).trans D).trans B).trans K).trans az).trans ay).trans ax).trans aw).trans av).trans au).trans aR).trans ba), hs, rfl⟩
end Go.HL.Tz
