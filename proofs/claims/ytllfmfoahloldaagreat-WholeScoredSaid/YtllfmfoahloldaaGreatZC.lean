/- The walks of some functions, printed by a program of ours (gox). -/
import Derived.Test.YtllfmfoahloldaaGreatZA
import Derived.Test.YtllfmfoahloldaaGreatHL19
set_option linter.unusedVariables false
set_option linter.unusedSimpArgs false
set_option maxRecDepth 100000
set_option maxHeartbeats 400000
namespace Go.HL.Tz
open Go.HL
attribute [local irreducible] OW CW CV
theorem ty269 : TyC P 269 true [.nilFunc, .nilFunc, .nilFunc, .nilFunc, .nilFunc, .nilFunc, .nilFunc] := ⟨by kernel_rfl, by kernel_rfl, (fun h => by cases h), by kernel_rfl⟩
theorem st268 : StrT P 268 [(0, 1)] := ⟨by kernel_rfl⟩
theorem ty268 : TyC P 268 true [.nilFunc] := ⟨by kernel_rfl, by kernel_rfl, (fun h => by cases h), by kernel_rfl⟩
theorem ar269 : ArrT P 269 7 268 := (by kernel_rfl : P.underlying 269 = some (.array 7 268))
theorem en139 : Proofs.Enters P 139 := Proofs.enters_of Proofs.Tryz.func139 (by kernel_rfl) rfl
theorem ty5 : TyC P 5 false [.int .u8 0] := ⟨by kernel_rfl, by kernel_rfl, (fun _ => rfl), by kernel_rfl⟩
theorem it5 : IntT P 5 .u8 := (by kernel_rfl : P.underlying 5 = some (.int .u8))
theorem it3 : IntT P 3 .i64 := (by kernel_rfl : P.underlying 3 = some (.int .i64))
theorem fl268_0 : FldT P 268 0 0 := ⟨by kernel_rfl⟩
theorem en168 : Proofs.Enters P 168 := Proofs.enters_of Proofs.Tryz.func168 (by kernel_rfl) rfl
theorem en169 : Proofs.Enters P 169 := Proofs.enters_of Proofs.Tryz.func169 (by kernel_rfl) rfl
theorem en170 : Proofs.Enters P 170 := Proofs.enters_of Proofs.Tryz.func170 (by kernel_rfl) rfl
theorem en171 : Proofs.Enters P 171 := Proofs.enters_of Proofs.Tryz.func171 (by kernel_rfl) rfl
theorem en172 : Proofs.Enters P 172 := Proofs.enters_of Proofs.Tryz.func172 (by kernel_rfl) rfl
theorem en173 : Proofs.Enters P 173 := Proofs.enters_of Proofs.Tryz.func173 (by kernel_rfl) rfl
theorem en140 : Proofs.Enters P 140 := Proofs.enters_of Proofs.Tryz.func140 (by kernel_rfl) rfl
theorem ty40 : TyC P 40 true [iN 0, iN 0, .slice none 0 0] := ⟨by kernel_rfl, by kernel_rfl, (fun h => by cases h), by kernel_rfl⟩
theorem fl40_0 : FldT P 40 0 0 := ⟨by kernel_rfl⟩
theorem fl40_1 : FldT P 40 1 1 := ⟨by kernel_rfl⟩
theorem fl40_2 : FldT P 40 2 2 := ⟨by kernel_rfl⟩
theorem ty38 : TyC P 38 false [.slice none 0 0] := ⟨by kernel_rfl, by kernel_rfl, (fun _ => rfl), by kernel_rfl⟩
theorem sl38 : SliceT P 38 4 := (by kernel_rfl : P.underlying 38 = some (.slice 4))
theorem en177 : Proofs.Enters P 177 := Proofs.enters_of Proofs.Tryz.func177 (by kernel_rfl) rfl
theorem en144 : Proofs.Enters P 144 := Proofs.enters_of Proofs.Tryz.func144 (by kernel_rfl) rfl
theorem en117 : Proofs.Enters P 117 := Proofs.enters_of Proofs.Tryz.func117 (by kernel_rfl) rfl
theorem ty4 : TyC P 4 false [.bool false] := ⟨by kernel_rfl, by kernel_rfl, (fun _ => rfl), by kernel_rfl⟩
theorem bt4 : P.underlying 4 = some .bool := by kernel_rfl
theorem en145 : Proofs.Enters P 145 := Proofs.enters_of Proofs.Tryz.func145 (by kernel_rfl) rfl
theorem en118 : Proofs.Enters P 118 := Proofs.enters_of Proofs.Tryz.func118 (by kernel_rfl) rfl
theorem en121 : Proofs.Enters P 121 := Proofs.enters_of Proofs.Tryz.func121 (by kernel_rfl) rfl
theorem en83 : Proofs.Enters P 83 := Proofs.enters_of Proofs.Tryz.func83 (by kernel_rfl) rfl
theorem en119 : Proofs.Enters P 119 := Proofs.enters_of Proofs.Tryz.func119 (by kernel_rfl) rfl
theorem en82 : Proofs.Enters P 82 := Proofs.enters_of Proofs.Tryz.func82 (by kernel_rfl) rfl
theorem en84 : Proofs.Enters P 84 := Proofs.enters_of Proofs.Tryz.func84 (by kernel_rfl) rfl
def f139_m  : Option Unit :=
  some ()
theorem f139_ok  {r : Unit} (hm : f139_m  = some r)  {I : Im} {F : List HP} {w : World} (hs : Sat I (F) w)  :
    CV P 139 [] w fun v w' => ∃ (J : Im), Im.le I J ∧ Sat J (F) w' ∧ v = .agg #[.nilFunc, .func (.func 168) #[] #[], .func (.func 169) #[] #[], .func (.func 170) #[] #[], .func (.func 171) #[] #[], .func (.func 172) #[] #[], .func (.func 173) #[] #[]] := by
 unfold f139_m at hm
 refine cv_of (n := 8) Proofs.Tryz.func139 rfl rfl (nLe rfl) <| cQ <| cR <| ow_alloc hs ty269 rfl ?_
 clear hs; intro a w hs
 refine oN <| sQR <| cR <| oU (vp := [(0, .func (.func 168) #[] #[])]) (cs := [.func (.func 168) #[] #[]]) st268 ty268 ⟨rfl, rfl, trivial⟩ rfl <| oU (vp := [(0, .func (.func 169) #[] #[])]) (cs := [.func (.func 169) #[] #[]]) st268 ty268 ⟨rfl, rfl, trivial⟩ rfl <| oU (vp := [(0, .func (.func 170) #[] #[])]) (cs := [.func (.func 170) #[] #[]]) st268 ty268 ⟨rfl, rfl, trivial⟩ rfl <| oU (vp := [(0, .func (.func 171) #[] #[])]) (cs := [.func (.func 171) #[] #[]]) st268 ty268 ⟨rfl, rfl, trivial⟩ rfl <| oU (vp := [(0, .func (.func 172) #[] #[])]) (cs := [.func (.func 172) #[] #[]]) st268 ty268 ⟨rfl, rfl, trivial⟩ rfl <| oU (vp := [(0, .func (.func 173) #[] #[])]) (cs := [.func (.func 173) #[] #[]]) st268 ty268 ⟨rfl, rfl, trivial⟩ rfl <| ow_buildA (vp := [(1, .agg #[.func (.func 168) #[] #[]]), (2, .agg #[.func (.func 169) #[] #[]]), (3, .agg #[.func (.func 170) #[] #[]]), (4, .agg #[.func (.func 171) #[] #[]]), (5, .agg #[.func (.func 172) #[] #[]]), (6, .agg #[.func (.func 173) #[] #[]])]) (cs := [.nilFunc, .func (.func 168) #[] #[], .func (.func 169) #[] #[], .func (.func 170) #[] #[], .func (.func 171) #[] #[], .func (.func 172) #[] #[], .func (.func 173) #[] #[]]) ar269 ty268 ty269 ⟨rfl, rfl, rfl, rfl, rfl, rfl, rfl, rfl, rfl, rfl, rfl, rfl, trivial⟩ rfl <| oS (k := 0) (vs := [.nilFunc, .func (.func 168) #[] #[], .func (.func 169) #[] #[], .func (.func 170) #[] #[], .func (.func 171) #[] #[], .func (.func 172) #[] #[], .func (.func 173) #[] #[]]) (cs' := [.nilFunc, .func (.func 168) #[] #[], .func (.func 169) #[] #[], .func (.func 170) #[] #[], .func (.func 171) #[] #[], .func (.func 172) #[] #[], .func (.func 173) #[] #[]]) hs rfl rfl rfl ty269 rfl rfl (nLe rfl) rfl rfl ?_
 clear hs; intro w hs
 refine oN <| sK <| cw_ret <| rK (rs := [.cell 0 269]) (vs := [.agg #[.nilFunc, .func (.func 168) #[] #[], .func (.func 169) #[] #[], .func (.func 170) #[] #[], .func (.func 171) #[] #[], .func (.func 172) #[] #[], .func (.func 173) #[] #[]]]) (.inr rfl) rfl ⟨⟨_, true, _, [.nilFunc, .func (.func 168) #[] #[], .func (.func 169) #[] #[], .func (.func 170) #[] #[], .func (.func 171) #[] #[], .func (.func 172) #[] #[], .func (.func 173) #[] #[]], rfl, ty269, CA_blk (off := 0) (m := 7) (hs.blk (k := 0) rfl), rfl, rfl⟩, trivial⟩ ?_
 obtain rfl := oJ hm
 replace hs := hs.erase 0
 exact ⟨I, iR, hs, rfl⟩
def f168_m (b : Int) (a : Int) : Option Int :=
  some (w64 (b + a))
theorem f168_ok (b : Int) (a : Int) {r : Int} (hm : f168_m b a = some r)  {I : Im} {F : List HP} {w : World} (hs : Sat I (F) w)  :
    CV P 168 [iN b, iN a] w fun v w' => ∃ (J : Im), Im.le I J ∧ Sat J (F) w' ∧ v = iN r := by
 unfold f168_m at hm
 refine cv_of (n := 8) Proofs.Tryz.func168 rfl rfl (nLe rfl) <| cQ <| cR <| asI rfl <| oN <| sQR <| cR <| mI rfl <| mI rfl <| oV (x_add rfl rfl) rfl <| asI rfl ?_
 refine oN <| sK <| cw_ret <| rK (rs := [.tmp 4]) (vs := [iN (w64 (b + a))]) (.inr rfl) rfl ⟨rfl, trivial⟩ ?_
 obtain rfl := oJ hm
 exact ⟨I, iR, hs, rfl⟩
def f169_m (b : Int) (a : Int) : Option Int :=
  some (w64 (b - a))
theorem f169_ok (b : Int) (a : Int) {r : Int} (hm : f169_m b a = some r)  {I : Im} {F : List HP} {w : World} (hs : Sat I (F) w)  :
    CV P 169 [iN b, iN a] w fun v w' => ∃ (J : Im), Im.le I J ∧ Sat J (F) w' ∧ v = iN r := by
 unfold f169_m at hm
 refine cv_of (n := 8) Proofs.Tryz.func169 rfl rfl (nLe rfl) <| cQ <| cR <| asI rfl <| oN <| sQR <| cR <| mI rfl <| mI rfl <| oV (x_sub rfl rfl) rfl <| asI rfl ?_
 refine oN <| sK <| cw_ret <| rK (rs := [.tmp 4]) (vs := [iN (w64 (b - a))]) (.inr rfl) rfl ⟨rfl, trivial⟩ ?_
 obtain rfl := oJ hm
 exact ⟨I, iR, hs, rfl⟩
def f170_m (d : Int) (c : Int) : Option Int :=
  some (min d c)
theorem f170_ok (d : Int) (c : Int) {r : Int} (hm : f170_m d c = some r)  {I : Im} {F : List HP} {w : World} (hs : Sat I (F) w)  :
    CV P 170 [iN d, iN c] w fun v w' => ∃ (J : Im), Im.le I J ∧ Sat J (F) w' ∧ v = iN r := by
 unfold f170_m at hm
 refine cv_of (n := 8) Proofs.Tryz.func170 rfl rfl (nLe rfl) <| cQ <| cR <| asI rfl <| oN <| sQR <| cR <| mI rfl <| mI rfl <| oV (x_min2 (k := .i64) (a := d) (b := c) rfl rfl) rfl <| asI rfl ?_
 refine oN <| sK <| cw_ret <| rK (rs := [.tmp 4]) (vs := [iN (min d c)]) (.inr rfl) rfl ⟨rfl, trivial⟩ ?_
 obtain rfl := oJ hm
 exact ⟨I, iR, hs, rfl⟩
def f171_m (d : Int) (c : Int) : Option Int :=
  some (max d c)
theorem f171_ok (d : Int) (c : Int) {r : Int} (hm : f171_m d c = some r)  {I : Im} {F : List HP} {w : World} (hs : Sat I (F) w)  :
    CV P 171 [iN d, iN c] w fun v w' => ∃ (J : Im), Im.le I J ∧ Sat J (F) w' ∧ v = iN r := by
 unfold f171_m at hm
 refine cv_of (n := 8) Proofs.Tryz.func171 rfl rfl (nLe rfl) <| cQ <| cR <| asI rfl <| oN <| sQR <| cR <| mI rfl <| mI rfl <| oV (x_max2 (k := .i64) (a := d) (b := c) rfl rfl) rfl <| asI rfl ?_
 refine oN <| sK <| cw_ret <| rK (rs := [.tmp 4]) (vs := [iN (max d c)]) (.inr rfl) rfl ⟨rfl, trivial⟩ ?_
 obtain rfl := oJ hm
 exact ⟨I, iR, hs, rfl⟩
def f172_m (b : Int) (a : Int) : Option Int :=
  some (w64 (b * a))
theorem f172_ok (b : Int) (a : Int) {r : Int} (hm : f172_m b a = some r)  {I : Im} {F : List HP} {w : World} (hs : Sat I (F) w)  :
    CV P 172 [iN b, iN a] w fun v w' => ∃ (J : Im), Im.le I J ∧ Sat J (F) w' ∧ v = iN r := by
 unfold f172_m at hm
 refine cv_of (n := 8) Proofs.Tryz.func172 rfl rfl (nLe rfl) <| cQ <| cR <| asI rfl <| oN <| sQR <| cR <| mI rfl <| mI rfl <| oV (x_mul rfl rfl) rfl <| asI rfl ?_
 refine oN <| sK <| cw_ret <| rK (rs := [.tmp 4]) (vs := [iN (w64 (b * a))]) (.inr rfl) rfl ⟨rfl, trivial⟩ ?_
 obtain rfl := oJ hm
 exact ⟨I, iR, hs, rfl⟩
def f173_m (d : Int) (c : Int) : Option Int :=
  some (max (w64 (d - c)) (w64 (c - d)))
theorem f173_ok (d : Int) (c : Int) {r : Int} (hm : f173_m d c = some r)  {I : Im} {F : List HP} {w : World} (hs : Sat I (F) w)  :
    CV P 173 [iN d, iN c] w fun v w' => ∃ (J : Im), Im.le I J ∧ Sat J (F) w' ∧ v = iN r := by
 unfold f173_m at hm
 refine cv_of (n := 12) Proofs.Tryz.func173 rfl rfl (nLe rfl) <| cQ <| cR <| asI rfl <| oN <| sQR <| cR <| mI rfl <| mI rfl <| oV (x_sub rfl rfl) rfl <| mI rfl ?_
 refine mI rfl <| oV (x_sub rfl rfl) rfl <| oV (x_max2 (k := .i64) (a := (w64 (d - c))) (b := (w64 (c - d))) rfl rfl) rfl <| asI rfl <| oN <| sK <| cw_ret <| rK (rs := [.tmp 4]) (vs := [iN (max (w64 (d - c)) (w64 (c - d)))]) (.inr rfl) rfl ⟨rfl, trivial⟩ ?_
 obtain rfl := oJ hm
 exact ⟨I, iR, hs, rfl⟩
def f140_m (M : Int) (K : Int) (y : Int) (t : Int) (s : Int) (e : List Int) (m : Int) (l : Int) (d : List Int) : Option Int :=
  (if y = 1 then ((f91_m t s e M K).bind fun r1 => ((f91_m m l d M K).bind fun r6 => ((f168_m r1 r6).bind fun aj => some aj))) else (if y = 2 then ((f91_m t s e M K).bind fun av => ((f91_m m l d M K).bind fun au => ((f169_m av au).bind fun ai => some ai))) else (if y = 3 then ((f91_m t s e M K).bind fun ar => ((f91_m m l d M K).bind fun aq => ((f170_m ar aq).bind fun ah => some ah))) else (if y = 4 then ((f91_m t s e M K).bind fun ap => ((f91_m m l d M K).bind fun ao => ((f171_m ap ao).bind fun ag => some ag))) else (if y = 5 then ((f91_m t s e M K).bind fun an => ((f91_m m l d M K).bind fun am => ((f172_m an am).bind fun af => some af))) else (if y = 6 then ((f91_m t s e M K).bind fun al => ((f91_m m l d M K).bind fun ak => ((f173_m al ak).bind fun ae => some ae))) else none))))))
theorem f140_ok (M : Int) (K : Int) (y : Int) (t : Int) (s : Int) (e : List Int) (m : Int) (l : Int) (d : List Int) {r : Int} (hm : f140_m M K y t s e m l d = some r) {G : Nat} {bc : Nat} {bb : Nat} {k : Option Addr} {i : Nat} {ba : Nat} {j : Option Addr} {h : Nat} {I : Im} {F : List HP} {w : World} (hs : Sat I (F) w) (C : Ib I G 269 [.nilFunc, .func (.func 168) #[] #[], .func (.func 169) #[] #[], .func (.func 170) #[] #[], .func (.func 171) #[] #[], .func (.func 172) #[] #[], .func (.func 173) #[] #[]]) (B : Ib I bc 5 [.int .u8 y]) (x : Rs I 1 k e.length i (e.flatMap e64)) (A : Ib I bb 26 (cL0 t s k e.length i)) (u : Rs I 1 j d.length h (d.flatMap e64)) (z : Ib I ba 26 (cL0 m l j d.length h)) :
    CV P 140 [iN M, iN K, pQ G 0, pQ bc 0, pQ bb 0, pQ ba 0] w fun v w' => ∃ (J : Im), Im.le I J ∧ Sat J (F) w' ∧ v = iN r := by
 unfold f140_m at hm
 refine cv_of (n := 22) Proofs.Tryz.func140 rfl rfl (nLe rfl) <| cQ <| cR <| asI rfl <| oN <| sQR ?_
 by_cases ad : y = 1
 · rw [if_pos ad] at hm
   obtain ⟨r1, bh, hm⟩ := bS hm
   obtain ⟨r6, bg, hm⟩ := bS hm
   obtain ⟨aj, a7, hm⟩ := bS hm
   refine cD mixed rfl (fun f0 L f w => ∃ (c : Im), Im.le I c ∧ f = frL [(9, 0, .int .u8 y), (10, 1, pQ G 1), (11, 2, pQ G 1), (12, 3, .func (.func 168) #[] #[]), (13, 4, .agg (cL0 t s k e.length i).toArray), (14, 5, iN M), (15, 6, iN K), (16, 7, iN r1), (17, 8, .agg (cL0 m l j d.length h).toArray), (18, 9, iN M), (19, 10, iN K), (20, 11, iN r6), (21, 12, iN aj), (8, 13, iN aj)] L f0 ∧ Sat c (F) w) ⟨I, iR, (frL_ff _).symm, hs.drew⟩ ⟨?_, ?_, ?_, ?_, ?_, ?_, ?_, ?_, ?_, ?_, ?_, ?_, ?_, ?_, trivial⟩ ?_
   all_goals clear hs
   · rintro L f w _ hL ⟨c, a, rfl, hs⟩
     replace B := B.mono a
     refine ld1I hs B rfl ty5 rfl ?_
     exact oN ⟨rfl, rfl, c, a, fS rfl rfl, hs⟩
   · rintro L f w ⟨X, _⟩ hL ⟨c, a, rfl, hs⟩
     refine ow_indexAq (b := G) (o := 0) (q := 1) (p := 1) ar269 ty268 rfl (fG rfl X) ad (by decide) rfl ?_
     exact oN ⟨rfl, rfl, c, a, fS rfl rfl, hs⟩
   · rintro L f w ⟨W, _⟩ hL ⟨c, a, rfl, hs⟩
     refine oF (b := G) (o := 1) fl268_0 (fG rfl W) ?_
     exact oN ⟨rfl, rfl, c, a, fS rfl rfl, hs⟩
   · rintro L f w ⟨U, _⟩ hL ⟨c, a, rfl, hs⟩
     replace C := C.mono a
     refine ld1I hs C (fG rfl U) ty77 rfl ?_
     exact oN ⟨rfl, rfl, c, a, fS rfl rfl, hs⟩
   · rintro L f w _ hL ⟨c, a, rfl, hs⟩
     replace A := A.mono a
     refine ow_loadI (vs := (cL0 t s k e.length i)) (v := .agg (cL0 t s k e.length i).toArray) hs A rfl ty26 rfl rfl rfl ?_
     exact oN ⟨rfl, rfl, c, a, fS rfl rfl, hs⟩
   · rintro L f w _ hL ⟨c, a, rfl, hs⟩
     refine mI rfl ?_
     exact oN ⟨rfl, rfl, c, a, fS rfl rfl, hs⟩
   · rintro L f w _ hL ⟨c, a, rfl, hs⟩
     refine mI rfl ?_
     exact oN ⟨rfl, rfl, c, a, fS rfl rfl, hs⟩
   · rintro L f w ⟨S, R, Q, _⟩ hL ⟨c, a, rfl, hs⟩
     replace x := x.mono a
     refine oC (fi := []) (vs := [.agg (cL0 t s k e.length i).toArray, iN M, iN K]) (ca := []) rfl ⟨(fG rfl S), (fG rfl R), (fG rfl Q), trivial⟩ en91 (f91_ok _ _ _ _ _ bh hs x) ?_
     clear hs; rintro _ w ⟨J3, a9, hs, rfl⟩
     exact oN ⟨rfl, rfl, J3, (a.trans a9), fS rfl rfl, hs⟩
   · rintro L f w _ hL ⟨c, a, rfl, hs⟩
     replace z := z.mono a
     refine ow_loadI (vs := (cL0 m l j d.length h)) (v := .agg (cL0 m l j d.length h).toArray) hs z rfl ty26 rfl rfl rfl ?_
     exact oN ⟨rfl, rfl, c, a, fS rfl rfl, hs⟩
   · rintro L f w _ hL ⟨c, a, rfl, hs⟩
     refine mI rfl ?_
     exact oN ⟨rfl, rfl, c, a, fS rfl rfl, hs⟩
   · rintro L f w _ hL ⟨c, a, rfl, hs⟩
     refine mI rfl ?_
     exact oN ⟨rfl, rfl, c, a, fS rfl rfl, hs⟩
   · rintro L f w ⟨O, N, E, H, _⟩ hL ⟨c, a, rfl, hs⟩
     replace u := u.mono a
     refine oC (fi := []) (vs := [.agg (cL0 m l j d.length h).toArray, iN M, iN K]) (ca := []) rfl ⟨(fG rfl O), (fG rfl N), (fG rfl E), trivial⟩ en91 (f91_ok _ _ _ _ _ bg hs u) ?_
     clear hs; rintro _ w ⟨J8, a8, hs, rfl⟩
     exact oN ⟨rfl, rfl, J8, (a.trans a8), fS rfl rfl, hs⟩
   · rintro L f w ⟨T, H, D, _, _⟩ hL ⟨c, a, rfl, hs⟩
     refine oC (fi := []) (vs := [iN r1, iN r6]) (ca := []) (fG rfl T) ⟨(fG rfl H), (fG rfl D), trivial⟩ en168 (f168_ok _ _ a7 hs) ?_
     clear hs; rintro _ w ⟨bx, aR, hs, rfl⟩
     exact oN ⟨rfl, rfl, bx, (a.trans aR), fS rfl rfl, hs⟩
   · rintro L f w ⟨V, _, X, W, U, T, S, R, Q, H, O, N, E, D, _, _⟩ hL ⟨c, a, rfl, hs⟩
     refine asI (fG rfl V) ?_
     exact oN ⟨rfl, rfl, c, a, fS rfl rfl, hs⟩
   rintro L f w hall ⟨bD, aQ, rfl, hs⟩
   rw [frL_tt _ rfl hall]
   refine sK <| cw_ret <| rK (rs := [.tmp 8]) (vs := [iN aj]) (.inr rfl) rfl ⟨rfl, trivial⟩ ?_
   obtain rfl := oJ hm
   exact ⟨bD, aQ, hs, rfl⟩
 rw [if_neg ad] at hm
 by_cases ac : y = 2
 · rw [if_pos ac] at hm
   obtain ⟨av, a6, hm⟩ := bS hm
   obtain ⟨au, a5, hm⟩ := bS hm
   obtain ⟨ai, a4, hm⟩ := bS hm
   refine cD mixed rfl (fun f0 L f w => ∃ (c : Im), Im.le I c ∧ f = frL [(9, 0, .int .u8 y), (10, 1, pQ G 2), (11, 2, pQ G 2), (12, 3, .func (.func 169) #[] #[]), (13, 4, .agg (cL0 t s k e.length i).toArray), (14, 5, iN M), (15, 6, iN K), (16, 7, iN av), (17, 8, .agg (cL0 m l j d.length h).toArray), (18, 9, iN M), (19, 10, iN K), (20, 11, iN au), (21, 12, iN ai), (8, 13, iN ai)] L f0 ∧ Sat c (F) w) ⟨I, iR, (frL_ff _).symm, hs.drew⟩ ⟨?_, ?_, ?_, ?_, ?_, ?_, ?_, ?_, ?_, ?_, ?_, ?_, ?_, ?_, trivial⟩ ?_
   all_goals clear hs
   · rintro L f w _ hL ⟨c, a, rfl, hs⟩
     replace B := B.mono a
     refine ld1I hs B rfl ty5 rfl ?_
     exact oN ⟨rfl, rfl, c, a, fS rfl rfl, hs⟩
   · rintro L f w ⟨X, _⟩ hL ⟨c, a, rfl, hs⟩
     refine ow_indexAq (b := G) (o := 0) (q := 2) (p := 2) ar269 ty268 rfl (fG rfl X) ac (by decide) rfl ?_
     exact oN ⟨rfl, rfl, c, a, fS rfl rfl, hs⟩
   · rintro L f w ⟨W, _⟩ hL ⟨c, a, rfl, hs⟩
     refine oF (b := G) (o := 2) fl268_0 (fG rfl W) ?_
     exact oN ⟨rfl, rfl, c, a, fS rfl rfl, hs⟩
   · rintro L f w ⟨U, _⟩ hL ⟨c, a, rfl, hs⟩
     replace C := C.mono a
     refine ld1I hs C (fG rfl U) ty77 rfl ?_
     exact oN ⟨rfl, rfl, c, a, fS rfl rfl, hs⟩
   · rintro L f w _ hL ⟨c, a, rfl, hs⟩
     replace A := A.mono a
     refine ow_loadI (vs := (cL0 t s k e.length i)) (v := .agg (cL0 t s k e.length i).toArray) hs A rfl ty26 rfl rfl rfl ?_
     exact oN ⟨rfl, rfl, c, a, fS rfl rfl, hs⟩
   · rintro L f w _ hL ⟨c, a, rfl, hs⟩
     refine mI rfl ?_
     exact oN ⟨rfl, rfl, c, a, fS rfl rfl, hs⟩
   · rintro L f w _ hL ⟨c, a, rfl, hs⟩
     refine mI rfl ?_
     exact oN ⟨rfl, rfl, c, a, fS rfl rfl, hs⟩
   · rintro L f w ⟨S, R, Q, _⟩ hL ⟨c, a, rfl, hs⟩
     replace x := x.mono a
     refine oC (fi := []) (vs := [.agg (cL0 t s k e.length i).toArray, iN M, iN K]) (ca := []) rfl ⟨(fG rfl S), (fG rfl R), (fG rfl Q), trivial⟩ en91 (f91_ok _ _ _ _ _ a6 hs x) ?_
     clear hs; rintro _ w ⟨bw, aP, hs, rfl⟩
     exact oN ⟨rfl, rfl, bw, (a.trans aP), fS rfl rfl, hs⟩
   · rintro L f w _ hL ⟨c, a, rfl, hs⟩
     replace z := z.mono a
     refine ow_loadI (vs := (cL0 m l j d.length h)) (v := .agg (cL0 m l j d.length h).toArray) hs z rfl ty26 rfl rfl rfl ?_
     exact oN ⟨rfl, rfl, c, a, fS rfl rfl, hs⟩
   · rintro L f w _ hL ⟨c, a, rfl, hs⟩
     refine mI rfl ?_
     exact oN ⟨rfl, rfl, c, a, fS rfl rfl, hs⟩
   · rintro L f w _ hL ⟨c, a, rfl, hs⟩
     refine mI rfl ?_
     exact oN ⟨rfl, rfl, c, a, fS rfl rfl, hs⟩
   · rintro L f w ⟨O, N, E, H, _⟩ hL ⟨c, a, rfl, hs⟩
     replace u := u.mono a
     refine oC (fi := []) (vs := [.agg (cL0 m l j d.length h).toArray, iN M, iN K]) (ca := []) rfl ⟨(fG rfl O), (fG rfl N), (fG rfl E), trivial⟩ en91 (f91_ok _ _ _ _ _ a5 hs u) ?_
     clear hs; rintro _ w ⟨bv, aO, hs, rfl⟩
     exact oN ⟨rfl, rfl, bv, (a.trans aO), fS rfl rfl, hs⟩
   · rintro L f w ⟨T, H, D, _, _⟩ hL ⟨c, a, rfl, hs⟩
     refine oC (fi := []) (vs := [iN av, iN au]) (ca := []) (fG rfl T) ⟨(fG rfl H), (fG rfl D), trivial⟩ en169 (f169_ok _ _ a4 hs) ?_
     clear hs; rintro _ w ⟨bu, aN, hs, rfl⟩
     exact oN ⟨rfl, rfl, bu, (a.trans aN), fS rfl rfl, hs⟩
   · rintro L f w ⟨V, _, X, W, U, T, S, R, Q, H, O, N, E, D, _, _⟩ hL ⟨c, a, rfl, hs⟩
     refine asI (fG rfl V) ?_
     exact oN ⟨rfl, rfl, c, a, fS rfl rfl, hs⟩
   rintro L f w hall ⟨bC, aM, rfl, hs⟩
   rw [frL_tt _ rfl hall]
   refine sK <| cw_ret <| rK (rs := [.tmp 8]) (vs := [iN ai]) (.inr rfl) rfl ⟨rfl, trivial⟩ ?_
   obtain rfl := oJ hm
   exact ⟨bC, aM, hs, rfl⟩
 rw [if_neg ac] at hm
 by_cases ab : y = 3
 · rw [if_pos ab] at hm
   obtain ⟨ar, a3, hm⟩ := bS hm
   obtain ⟨aq, a2, hm⟩ := bS hm
   obtain ⟨ah, a1, hm⟩ := bS hm
   refine cD mixed rfl (fun f0 L f w => ∃ (c : Im), Im.le I c ∧ f = frL [(9, 0, .int .u8 y), (10, 1, pQ G 3), (11, 2, pQ G 3), (12, 3, .func (.func 170) #[] #[]), (13, 4, .agg (cL0 t s k e.length i).toArray), (14, 5, iN M), (15, 6, iN K), (16, 7, iN ar), (17, 8, .agg (cL0 m l j d.length h).toArray), (18, 9, iN M), (19, 10, iN K), (20, 11, iN aq), (21, 12, iN ah), (8, 13, iN ah)] L f0 ∧ Sat c (F) w) ⟨I, iR, (frL_ff _).symm, hs.drew⟩ ⟨?_, ?_, ?_, ?_, ?_, ?_, ?_, ?_, ?_, ?_, ?_, ?_, ?_, ?_, trivial⟩ ?_
   all_goals clear hs
   · rintro L f w _ hL ⟨c, a, rfl, hs⟩
     replace B := B.mono a
     refine ld1I hs B rfl ty5 rfl ?_
     exact oN ⟨rfl, rfl, c, a, fS rfl rfl, hs⟩
   · rintro L f w ⟨X, _⟩ hL ⟨c, a, rfl, hs⟩
     refine ow_indexAq (b := G) (o := 0) (q := 3) (p := 3) ar269 ty268 rfl (fG rfl X) ab (by decide) rfl ?_
     exact oN ⟨rfl, rfl, c, a, fS rfl rfl, hs⟩
   · rintro L f w ⟨W, _⟩ hL ⟨c, a, rfl, hs⟩
     refine oF (b := G) (o := 3) fl268_0 (fG rfl W) ?_
     exact oN ⟨rfl, rfl, c, a, fS rfl rfl, hs⟩
   · rintro L f w ⟨U, _⟩ hL ⟨c, a, rfl, hs⟩
     replace C := C.mono a
     refine ld1I hs C (fG rfl U) ty77 rfl ?_
     exact oN ⟨rfl, rfl, c, a, fS rfl rfl, hs⟩
   · rintro L f w _ hL ⟨c, a, rfl, hs⟩
     replace A := A.mono a
     refine ow_loadI (vs := (cL0 t s k e.length i)) (v := .agg (cL0 t s k e.length i).toArray) hs A rfl ty26 rfl rfl rfl ?_
     exact oN ⟨rfl, rfl, c, a, fS rfl rfl, hs⟩
   · rintro L f w _ hL ⟨c, a, rfl, hs⟩
     refine mI rfl ?_
     exact oN ⟨rfl, rfl, c, a, fS rfl rfl, hs⟩
   · rintro L f w _ hL ⟨c, a, rfl, hs⟩
     refine mI rfl ?_
     exact oN ⟨rfl, rfl, c, a, fS rfl rfl, hs⟩
   · rintro L f w ⟨S, R, Q, _⟩ hL ⟨c, a, rfl, hs⟩
     replace x := x.mono a
     refine oC (fi := []) (vs := [.agg (cL0 t s k e.length i).toArray, iN M, iN K]) (ca := []) rfl ⟨(fG rfl S), (fG rfl R), (fG rfl Q), trivial⟩ en91 (f91_ok _ _ _ _ _ a3 hs x) ?_
     clear hs; rintro _ w ⟨bt, aL, hs, rfl⟩
     exact oN ⟨rfl, rfl, bt, (a.trans aL), fS rfl rfl, hs⟩
   · rintro L f w _ hL ⟨c, a, rfl, hs⟩
     replace z := z.mono a
     refine ow_loadI (vs := (cL0 m l j d.length h)) (v := .agg (cL0 m l j d.length h).toArray) hs z rfl ty26 rfl rfl rfl ?_
     exact oN ⟨rfl, rfl, c, a, fS rfl rfl, hs⟩
   · rintro L f w _ hL ⟨c, a, rfl, hs⟩
     refine mI rfl ?_
     exact oN ⟨rfl, rfl, c, a, fS rfl rfl, hs⟩
   · rintro L f w _ hL ⟨c, a, rfl, hs⟩
     refine mI rfl ?_
     exact oN ⟨rfl, rfl, c, a, fS rfl rfl, hs⟩
   · rintro L f w ⟨O, N, E, H, _⟩ hL ⟨c, a, rfl, hs⟩
     replace u := u.mono a
     refine oC (fi := []) (vs := [.agg (cL0 m l j d.length h).toArray, iN M, iN K]) (ca := []) rfl ⟨(fG rfl O), (fG rfl N), (fG rfl E), trivial⟩ en91 (f91_ok _ _ _ _ _ a2 hs u) ?_
     clear hs; rintro _ w ⟨bs, aK, hs, rfl⟩
     exact oN ⟨rfl, rfl, bs, (a.trans aK), fS rfl rfl, hs⟩
   · rintro L f w ⟨T, H, D, _, _⟩ hL ⟨c, a, rfl, hs⟩
     refine oC (fi := []) (vs := [iN ar, iN aq]) (ca := []) (fG rfl T) ⟨(fG rfl H), (fG rfl D), trivial⟩ en170 (f170_ok _ _ a1 hs) ?_
     clear hs; rintro _ w ⟨br, aJ, hs, rfl⟩
     exact oN ⟨rfl, rfl, br, (a.trans aJ), fS rfl rfl, hs⟩
   · rintro L f w ⟨V, _, X, W, U, T, S, R, Q, H, O, N, E, D, _, _⟩ hL ⟨c, a, rfl, hs⟩
     refine asI (fG rfl V) ?_
     exact oN ⟨rfl, rfl, c, a, fS rfl rfl, hs⟩
   rintro L f w hall ⟨bB, aI, rfl, hs⟩
   rw [frL_tt _ rfl hall]
   refine sK <| cw_ret <| rK (rs := [.tmp 8]) (vs := [iN ah]) (.inr rfl) rfl ⟨rfl, trivial⟩ ?_
   obtain rfl := oJ hm
   exact ⟨bB, aI, hs, rfl⟩
 rw [if_neg ab] at hm
 by_cases aa : y = 4
 · rw [if_pos aa] at hm
   obtain ⟨ap, a0, hm⟩ := bS hm
   obtain ⟨ao, aZ, hm⟩ := bS hm
   obtain ⟨ag, aY, hm⟩ := bS hm
   refine cD mixed rfl (fun f0 L f w => ∃ (c : Im), Im.le I c ∧ f = frL [(9, 0, .int .u8 y), (10, 1, pQ G 4), (11, 2, pQ G 4), (12, 3, .func (.func 171) #[] #[]), (13, 4, .agg (cL0 t s k e.length i).toArray), (14, 5, iN M), (15, 6, iN K), (16, 7, iN ap), (17, 8, .agg (cL0 m l j d.length h).toArray), (18, 9, iN M), (19, 10, iN K), (20, 11, iN ao), (21, 12, iN ag), (8, 13, iN ag)] L f0 ∧ Sat c (F) w) ⟨I, iR, (frL_ff _).symm, hs.drew⟩ ⟨?_, ?_, ?_, ?_, ?_, ?_, ?_, ?_, ?_, ?_, ?_, ?_, ?_, ?_, trivial⟩ ?_
   all_goals clear hs
   · rintro L f w _ hL ⟨c, a, rfl, hs⟩
     replace B := B.mono a
     refine ld1I hs B rfl ty5 rfl ?_
     exact oN ⟨rfl, rfl, c, a, fS rfl rfl, hs⟩
   · rintro L f w ⟨X, _⟩ hL ⟨c, a, rfl, hs⟩
     refine ow_indexAq (b := G) (o := 0) (q := 4) (p := 4) ar269 ty268 rfl (fG rfl X) aa (by decide) rfl ?_
     exact oN ⟨rfl, rfl, c, a, fS rfl rfl, hs⟩
   · rintro L f w ⟨W, _⟩ hL ⟨c, a, rfl, hs⟩
     refine oF (b := G) (o := 4) fl268_0 (fG rfl W) ?_
     exact oN ⟨rfl, rfl, c, a, fS rfl rfl, hs⟩
   · rintro L f w ⟨U, _⟩ hL ⟨c, a, rfl, hs⟩
     replace C := C.mono a
     refine ld1I hs C (fG rfl U) ty77 rfl ?_
     exact oN ⟨rfl, rfl, c, a, fS rfl rfl, hs⟩
   · rintro L f w _ hL ⟨c, a, rfl, hs⟩
     replace A := A.mono a
     refine ow_loadI (vs := (cL0 t s k e.length i)) (v := .agg (cL0 t s k e.length i).toArray) hs A rfl ty26 rfl rfl rfl ?_
     exact oN ⟨rfl, rfl, c, a, fS rfl rfl, hs⟩
   · rintro L f w _ hL ⟨c, a, rfl, hs⟩
     refine mI rfl ?_
     exact oN ⟨rfl, rfl, c, a, fS rfl rfl, hs⟩
   · rintro L f w _ hL ⟨c, a, rfl, hs⟩
     refine mI rfl ?_
     exact oN ⟨rfl, rfl, c, a, fS rfl rfl, hs⟩
   · rintro L f w ⟨S, R, Q, _⟩ hL ⟨c, a, rfl, hs⟩
     replace x := x.mono a
     refine oC (fi := []) (vs := [.agg (cL0 t s k e.length i).toArray, iN M, iN K]) (ca := []) rfl ⟨(fG rfl S), (fG rfl R), (fG rfl Q), trivial⟩ en91 (f91_ok _ _ _ _ _ a0 hs x) ?_
     clear hs; rintro _ w ⟨bq, aH, hs, rfl⟩
     exact oN ⟨rfl, rfl, bq, (a.trans aH), fS rfl rfl, hs⟩
   · rintro L f w _ hL ⟨c, a, rfl, hs⟩
     replace z := z.mono a
     refine ow_loadI (vs := (cL0 m l j d.length h)) (v := .agg (cL0 m l j d.length h).toArray) hs z rfl ty26 rfl rfl rfl ?_
     exact oN ⟨rfl, rfl, c, a, fS rfl rfl, hs⟩
   · rintro L f w _ hL ⟨c, a, rfl, hs⟩
     refine mI rfl ?_
     exact oN ⟨rfl, rfl, c, a, fS rfl rfl, hs⟩
   · rintro L f w _ hL ⟨c, a, rfl, hs⟩
     refine mI rfl ?_
     exact oN ⟨rfl, rfl, c, a, fS rfl rfl, hs⟩
   · rintro L f w ⟨O, N, E, H, _⟩ hL ⟨c, a, rfl, hs⟩
     replace u := u.mono a
     refine oC (fi := []) (vs := [.agg (cL0 m l j d.length h).toArray, iN M, iN K]) (ca := []) rfl ⟨(fG rfl O), (fG rfl N), (fG rfl E), trivial⟩ en91 (f91_ok _ _ _ _ _ aZ hs u) ?_
     clear hs; rintro _ w ⟨bp, aG, hs, rfl⟩
     exact oN ⟨rfl, rfl, bp, (a.trans aG), fS rfl rfl, hs⟩
   · rintro L f w ⟨T, H, D, _, _⟩ hL ⟨c, a, rfl, hs⟩
     refine oC (fi := []) (vs := [iN ap, iN ao]) (ca := []) (fG rfl T) ⟨(fG rfl H), (fG rfl D), trivial⟩ en171 (f171_ok _ _ aY hs) ?_
     clear hs; rintro _ w ⟨bo, aF, hs, rfl⟩
     exact oN ⟨rfl, rfl, bo, (a.trans aF), fS rfl rfl, hs⟩
   · rintro L f w ⟨V, _, X, W, U, T, S, R, Q, H, O, N, E, D, _, _⟩ hL ⟨c, a, rfl, hs⟩
     refine asI (fG rfl V) ?_
     exact oN ⟨rfl, rfl, c, a, fS rfl rfl, hs⟩
   rintro L f w hall ⟨bA, aE, rfl, hs⟩
   rw [frL_tt _ rfl hall]
   refine sK <| cw_ret <| rK (rs := [.tmp 8]) (vs := [iN ag]) (.inr rfl) rfl ⟨rfl, trivial⟩ ?_
   obtain rfl := oJ hm
   exact ⟨bA, aE, hs, rfl⟩
 rw [if_neg aa] at hm
 by_cases Z : y = 5
 · rw [if_pos Z] at hm
   obtain ⟨an, aX, hm⟩ := bS hm
   obtain ⟨am, aW, hm⟩ := bS hm
   obtain ⟨af, aV, hm⟩ := bS hm
   refine cD mixed rfl (fun f0 L f w => ∃ (c : Im), Im.le I c ∧ f = frL [(9, 0, .int .u8 y), (10, 1, pQ G 5), (11, 2, pQ G 5), (12, 3, .func (.func 172) #[] #[]), (13, 4, .agg (cL0 t s k e.length i).toArray), (14, 5, iN M), (15, 6, iN K), (16, 7, iN an), (17, 8, .agg (cL0 m l j d.length h).toArray), (18, 9, iN M), (19, 10, iN K), (20, 11, iN am), (21, 12, iN af), (8, 13, iN af)] L f0 ∧ Sat c (F) w) ⟨I, iR, (frL_ff _).symm, hs.drew⟩ ⟨?_, ?_, ?_, ?_, ?_, ?_, ?_, ?_, ?_, ?_, ?_, ?_, ?_, ?_, trivial⟩ ?_
   all_goals clear hs
   · rintro L f w _ hL ⟨c, a, rfl, hs⟩
     replace B := B.mono a
     refine ld1I hs B rfl ty5 rfl ?_
     exact oN ⟨rfl, rfl, c, a, fS rfl rfl, hs⟩
   · rintro L f w ⟨X, _⟩ hL ⟨c, a, rfl, hs⟩
     refine ow_indexAq (b := G) (o := 0) (q := 5) (p := 5) ar269 ty268 rfl (fG rfl X) Z (by decide) rfl ?_
     exact oN ⟨rfl, rfl, c, a, fS rfl rfl, hs⟩
   · rintro L f w ⟨W, _⟩ hL ⟨c, a, rfl, hs⟩
     refine oF (b := G) (o := 5) fl268_0 (fG rfl W) ?_
     exact oN ⟨rfl, rfl, c, a, fS rfl rfl, hs⟩
   · rintro L f w ⟨U, _⟩ hL ⟨c, a, rfl, hs⟩
     replace C := C.mono a
     refine ld1I hs C (fG rfl U) ty77 rfl ?_
     exact oN ⟨rfl, rfl, c, a, fS rfl rfl, hs⟩
   · rintro L f w _ hL ⟨c, a, rfl, hs⟩
     replace A := A.mono a
     refine ow_loadI (vs := (cL0 t s k e.length i)) (v := .agg (cL0 t s k e.length i).toArray) hs A rfl ty26 rfl rfl rfl ?_
     exact oN ⟨rfl, rfl, c, a, fS rfl rfl, hs⟩
   · rintro L f w _ hL ⟨c, a, rfl, hs⟩
     refine mI rfl ?_
     exact oN ⟨rfl, rfl, c, a, fS rfl rfl, hs⟩
   · rintro L f w _ hL ⟨c, a, rfl, hs⟩
     refine mI rfl ?_
     exact oN ⟨rfl, rfl, c, a, fS rfl rfl, hs⟩
   · rintro L f w ⟨S, R, Q, _⟩ hL ⟨c, a, rfl, hs⟩
     replace x := x.mono a
     refine oC (fi := []) (vs := [.agg (cL0 t s k e.length i).toArray, iN M, iN K]) (ca := []) rfl ⟨(fG rfl S), (fG rfl R), (fG rfl Q), trivial⟩ en91 (f91_ok _ _ _ _ _ aX hs x) ?_
     clear hs; rintro _ w ⟨bn, aD, hs, rfl⟩
     exact oN ⟨rfl, rfl, bn, (a.trans aD), fS rfl rfl, hs⟩
   · rintro L f w _ hL ⟨c, a, rfl, hs⟩
     replace z := z.mono a
     refine ow_loadI (vs := (cL0 m l j d.length h)) (v := .agg (cL0 m l j d.length h).toArray) hs z rfl ty26 rfl rfl rfl ?_
     exact oN ⟨rfl, rfl, c, a, fS rfl rfl, hs⟩
   · rintro L f w _ hL ⟨c, a, rfl, hs⟩
     refine mI rfl ?_
     exact oN ⟨rfl, rfl, c, a, fS rfl rfl, hs⟩
   · rintro L f w _ hL ⟨c, a, rfl, hs⟩
     refine mI rfl ?_
     exact oN ⟨rfl, rfl, c, a, fS rfl rfl, hs⟩
   · rintro L f w ⟨O, N, E, H, _⟩ hL ⟨c, a, rfl, hs⟩
     replace u := u.mono a
     refine oC (fi := []) (vs := [.agg (cL0 m l j d.length h).toArray, iN M, iN K]) (ca := []) rfl ⟨(fG rfl O), (fG rfl N), (fG rfl E), trivial⟩ en91 (f91_ok _ _ _ _ _ aW hs u) ?_
     clear hs; rintro _ w ⟨bm, aC, hs, rfl⟩
     exact oN ⟨rfl, rfl, bm, (a.trans aC), fS rfl rfl, hs⟩
   · rintro L f w ⟨T, H, D, _, _⟩ hL ⟨c, a, rfl, hs⟩
     refine oC (fi := []) (vs := [iN an, iN am]) (ca := []) (fG rfl T) ⟨(fG rfl H), (fG rfl D), trivial⟩ en172 (f172_ok _ _ aV hs) ?_
     clear hs; rintro _ w ⟨bl, aB, hs, rfl⟩
     exact oN ⟨rfl, rfl, bl, (a.trans aB), fS rfl rfl, hs⟩
   · rintro L f w ⟨V, _, X, W, U, T, S, R, Q, H, O, N, E, D, _, _⟩ hL ⟨c, a, rfl, hs⟩
     refine asI (fG rfl V) ?_
     exact oN ⟨rfl, rfl, c, a, fS rfl rfl, hs⟩
   rintro L f w hall ⟨bz, aA, rfl, hs⟩
   rw [frL_tt _ rfl hall]
   refine sK <| cw_ret <| rK (rs := [.tmp 8]) (vs := [iN af]) (.inr rfl) rfl ⟨rfl, trivial⟩ ?_
   obtain rfl := oJ hm
   exact ⟨bz, aA, hs, rfl⟩
 rw [if_neg Z] at hm
 by_cases Y : y = 6
 · rw [if_pos Y] at hm
   obtain ⟨al, aU, hm⟩ := bS hm
   obtain ⟨ak, aT, hm⟩ := bS hm
   obtain ⟨ae, aS, hm⟩ := bS hm
   refine cD mixed rfl (fun f0 L f w => ∃ (c : Im), Im.le I c ∧ f = frL [(9, 0, .int .u8 y), (10, 1, pQ G 6), (11, 2, pQ G 6), (12, 3, .func (.func 173) #[] #[]), (13, 4, .agg (cL0 t s k e.length i).toArray), (14, 5, iN M), (15, 6, iN K), (16, 7, iN al), (17, 8, .agg (cL0 m l j d.length h).toArray), (18, 9, iN M), (19, 10, iN K), (20, 11, iN ak), (21, 12, iN ae), (8, 13, iN ae)] L f0 ∧ Sat c (F) w) ⟨I, iR, (frL_ff _).symm, hs.drew⟩ ⟨?_, ?_, ?_, ?_, ?_, ?_, ?_, ?_, ?_, ?_, ?_, ?_, ?_, ?_, trivial⟩ ?_
   all_goals clear hs
   · rintro L f w _ hL ⟨c, a, rfl, hs⟩
     replace B := B.mono a
     refine ld1I hs B rfl ty5 rfl ?_
     exact oN ⟨rfl, rfl, c, a, fS rfl rfl, hs⟩
   · rintro L f w ⟨X, _⟩ hL ⟨c, a, rfl, hs⟩
     refine ow_indexAq (b := G) (o := 0) (q := 6) (p := 6) ar269 ty268 rfl (fG rfl X) Y (by decide) rfl ?_
     exact oN ⟨rfl, rfl, c, a, fS rfl rfl, hs⟩
   · rintro L f w ⟨W, _⟩ hL ⟨c, a, rfl, hs⟩
     refine oF (b := G) (o := 6) fl268_0 (fG rfl W) ?_
     exact oN ⟨rfl, rfl, c, a, fS rfl rfl, hs⟩
   · rintro L f w ⟨U, _⟩ hL ⟨c, a, rfl, hs⟩
     replace C := C.mono a
     refine ld1I hs C (fG rfl U) ty77 rfl ?_
     exact oN ⟨rfl, rfl, c, a, fS rfl rfl, hs⟩
   · rintro L f w _ hL ⟨c, a, rfl, hs⟩
     replace A := A.mono a
     refine ow_loadI (vs := (cL0 t s k e.length i)) (v := .agg (cL0 t s k e.length i).toArray) hs A rfl ty26 rfl rfl rfl ?_
     exact oN ⟨rfl, rfl, c, a, fS rfl rfl, hs⟩
   · rintro L f w _ hL ⟨c, a, rfl, hs⟩
     refine mI rfl ?_
     exact oN ⟨rfl, rfl, c, a, fS rfl rfl, hs⟩
   · rintro L f w _ hL ⟨c, a, rfl, hs⟩
     refine mI rfl ?_
     exact oN ⟨rfl, rfl, c, a, fS rfl rfl, hs⟩
   · rintro L f w ⟨S, R, Q, _⟩ hL ⟨c, a, rfl, hs⟩
     replace x := x.mono a
     refine oC (fi := []) (vs := [.agg (cL0 t s k e.length i).toArray, iN M, iN K]) (ca := []) rfl ⟨(fG rfl S), (fG rfl R), (fG rfl Q), trivial⟩ en91 (f91_ok _ _ _ _ _ aU hs x) ?_
     clear hs; rintro _ w ⟨bk, az, hs, rfl⟩
     exact oN ⟨rfl, rfl, bk, (a.trans az), fS rfl rfl, hs⟩
   · rintro L f w _ hL ⟨c, a, rfl, hs⟩
     replace z := z.mono a
     refine ow_loadI (vs := (cL0 m l j d.length h)) (v := .agg (cL0 m l j d.length h).toArray) hs z rfl ty26 rfl rfl rfl ?_
     exact oN ⟨rfl, rfl, c, a, fS rfl rfl, hs⟩
   · rintro L f w _ hL ⟨c, a, rfl, hs⟩
     refine mI rfl ?_
     exact oN ⟨rfl, rfl, c, a, fS rfl rfl, hs⟩
   · rintro L f w _ hL ⟨c, a, rfl, hs⟩
     refine mI rfl ?_
     exact oN ⟨rfl, rfl, c, a, fS rfl rfl, hs⟩
   · rintro L f w ⟨O, N, E, H, _⟩ hL ⟨c, a, rfl, hs⟩
     replace u := u.mono a
     refine oC (fi := []) (vs := [.agg (cL0 m l j d.length h).toArray, iN M, iN K]) (ca := []) rfl ⟨(fG rfl O), (fG rfl N), (fG rfl E), trivial⟩ en91 (f91_ok _ _ _ _ _ aT hs u) ?_
     clear hs; rintro _ w ⟨bj, ay, hs, rfl⟩
     exact oN ⟨rfl, rfl, bj, (a.trans ay), fS rfl rfl, hs⟩
   · rintro L f w ⟨T, H, D, _, _⟩ hL ⟨c, a, rfl, hs⟩
     refine oC (fi := []) (vs := [iN al, iN ak]) (ca := []) (fG rfl T) ⟨(fG rfl H), (fG rfl D), trivial⟩ en173 (f173_ok _ _ aS hs) ?_
     clear hs; rintro _ w ⟨bi, ax, hs, rfl⟩
     exact oN ⟨rfl, rfl, bi, (a.trans ax), fS rfl rfl, hs⟩
   · rintro L f w ⟨V, _, X, W, U, T, S, R, Q, H, O, N, E, D, _, _⟩ hL ⟨c, a, rfl, hs⟩
     refine asI (fG rfl V) ?_
     exact oN ⟨rfl, rfl, c, a, fS rfl rfl, hs⟩
   rintro L f w hall ⟨bd, aw, rfl, hs⟩
   rw [frL_tt _ rfl hall]
   refine sK <| cw_ret <| rK (rs := [.tmp 8]) (vs := [iN ae]) (.inr rfl) rfl ⟨rfl, trivial⟩ ?_
   obtain rfl := oJ hm
   exact ⟨bd, aw, hs, rfl⟩
 rw [if_neg Y] at hm
 cases hm
def f87a_s0 (D : Int) (N : Int) (M : Int) (K : Int) (C : List Int) (H : Int) (G : Int) (B : List Int) (e : List Int) (xe : Int × Int) : Option (List Int) :=
  ((f140_m (xe.1) (xe.2) N M K C H G B).bind fun ap => ((f122_m ap).bind fun E => (if e.length + [E].length ≤ 1099511627776 then some (e ++ [E]) else none)))
def f87a_m (D : Int) (O : Int) (N : Int) (M : Int) (K : Int) (C : List Int) (H : Int) (G : Int) (B : List Int) : Option (Int × Int × List Int) :=
  (if 0 ≤ (0 : Int) ∧ (0 : Int) ≤ (w64 (D * O)) ∧ (w64 (D * O)) ≤ 1099511627776 then (if (0 ≤ D ∧ D ≤ 1000000) ∧ 0 ≤ O ∧ O ≤ 1000000 then ((itFrom (S := List Int) (fun j s => f87a_s0 D N M K C H G B s (pXY D j)) 0 (pN D O) (List.replicate (0 : Int).toNat (0 : Int))).bind fun e => some (D, O, e)) else none) else none)
theorem f87a_ok (D : Int) (O : Int) (N : Int) (M : Int) (K : Int) (C : List Int) (H : Int) (G : Int) (B : List Int) {r : Int × Int × List Int} (hm : f87a_m D O N M K C H G B = some r) {U : Nat} {T : Nat} {R : Nat} {ak : Option Addr} {ai : Nat} {Q : Nat} {aj : Option Addr} {ah : Nat} {I : Im} {F : List HP} {w : World} (hs : Sat I (F) w) (ag : Ib I U 269 [.nilFunc, .func (.func 168) #[] #[], .func (.func 169) #[] #[], .func (.func 170) #[] #[], .func (.func 171) #[] #[], .func (.func 172) #[] #[], .func (.func 173) #[] #[]]) (af : Ib I T 5 [.int .u8 N]) (aa : Rs I 1 ak C.length ai (C.flatMap e64)) (ae : Ib I R 26 (cL0 M K ak C.length ai)) (Z : Rs I 1 aj B.length ah (B.flatMap e64)) (ad : Ib I Q 26 (cL0 H G aj B.length ah)) :
    CV P 87 [iN D, iN O, .func (.func 140) #[] #[pQ U 0, pQ T 0, pQ R 0, pQ Q 0]] w fun v w' => ∃ (J : Im) (a2 : Option Addr) (c2 : Nat), Im.le I J ∧ Sat J (osl 3 1 a2 r.2.2.length c2 (r.2.2.flatMap e64) :: F) w' ∧ v = .agg (rL2 r a2 c2).toArray := by
 unfold f87a_m at hm
 refine cv_ofM (n := 33) Proofs.Tryz.func87 rfl rfl (nLe rfl) <| cQ <| cR <| oB (v := .func (.func 140) #[] #[pQ U 0, pQ T 0, pQ R 0, pQ Q 0]) (cs := [.func (.func 140) #[] #[pQ U 0, pQ T 0, pQ R 0, pQ Q 0]]) hs rfl rfl ?_
 clear hs; intro b1 w hs
 refine ow_alloc hs ty26 rfl ?_
 clear hs; intro b3 w hs
 refine oN <| sQR <| cR <| mI rfl <| mI rfl <| mI rfl <| mI rfl <| oV (x_mul rfl rfl) rfl ?_
 have aw := (iS hm).1
 replace hm := (iS hm).2
 refine ow_makeT (enc := e64) (z := (0 : Int)) (i := (0 : Int)) (j := (w64 (D * O))) hs sl24 ty3 el3 rfl rfl rfl rfl aw.1 aw.2.1 aw.2.2 (by decide) ?_
 clear hs; intro a6 w hs
 refine oU (vp := [(0, iN D), (1, iN O), (2, .slice a6 ((List.replicate (0 : Int).toNat (0 : Int)).length) ((w64 (D * O)).toNat))]) (cs := (cL0 D O a6 ((List.replicate (0 : Int).toNat (0 : Int)).length) ((w64 (D * O)).toNat))) st26 ty26 ⟨rfl, rfl, rfl, rfl, rfl, rfl, trivial⟩ rfl <| ow_alloc hs ty26 rfl ?_
 clear hs; intro b8 w hs
 refine oS (k := 0) (vs := (cL0 D O a6 ((List.replicate (0 : Int).toNat (0 : Int)).length) ((w64 (D * O)).toNat))) (cs' := (cL0 D O a6 ((List.replicate (0 : Int).toNat (0 : Int)).length) ((w64 (D * O)).toNat))) hs rfl rfl rfl ty26 rfl rfl (nLe rfl) rfl rfl ?_
 clear hs; intro w hs
 refine oN <| sQR <| cQ <| cR <| mI rfl <| mI rfl <| oC (fi := []) (vs := [iN D, iN O]) (ca := []) rfl ⟨rfl, rfl, trivial⟩ en120 (f120_ok hs) ?_
 clear hs; rintro _ w ⟨aQ, a3, a1, W, hs, rfl, aM, aL⟩
 refine oN <| sK <| cw_block ?_
 have aK := (iS hm).1
 replace hm := (iS hm).2
 obtain ⟨aE, aI, aH⟩ := bS hm
 replace hm := aI; clear aI
 refine cw_range hs rfl en146 ?_
 clear hs; intro a0 aS fnD59 aO w ax hs
 refine CV.mono (f146_it D O aK (Inv := fun j w => ∃ (e : List Int) (q : Option Addr) (p : Nat) (ac : Im), Im.le aQ ac ∧ itFrom (fun j s => f87a_s0 D N M K C H G B s (pXY D j)) j ((pN D O) - j) e = some aE ∧ Sat ac (aO :: HL.ob aS (.deferred (some [])) :: blk b8 26 (cL0 D O q e.length p) :: osl 3 1 q e.length p (e.flatMap e64) :: blk b3 26 (cL0 0 0 none 0 0) :: blk b1 77 [.func (.func 140) #[] #[pQ U 0, pQ T 0, pQ R 0, pQ Q 0]] :: F) w) ?_ ?_ ⟨List.replicate (0 : Int).toNat (0 : Int), a6, (w64 (D * O)).toNat, aQ, iR, hm, hs⟩) ?_
 · rintro j w ⟨e, q, p, ac, A, hit, hs⟩
   exact ⟨_, _, hs, aM.mono A, aL.mono A⟩
 · clear hm hs
   rintro j hj w ⟨e, q, p, ac, A, hit, hs⟩
   obtain ⟨sn, hm, hit2⟩ := it_succ (k := (pN D O) - 1 - j) (by omega) hit
   clear hit
   unfold f87a_s0 at hm
   refine yc_of (k := 0) hs ax rfl rfl <| cQ <| cR <| asI rfl <| oN <| sK <| cR <| asI rfl <| oN ?_
   refine ⟨rfl, ac, 0, _, hs, rfl, ?_⟩
   clear hs; intro BB64 w hs
   refine cw_block ?_
   obtain ⟨ap, aG, hm⟩ := bS hm
   obtain ⟨E, aF, hm⟩ := bS hm
   have aJ := (iS hm).1
   replace hm := (iS hm).2
   refine cD mixed rfl (fun f0 L f w => ∃ (y : Option Addr) (x : Option Addr) (u : Nat) (Iq : Im), Im.le ac Iq ∧ f = frL [(22, 0, pQ b8 2), (23, 1, .slice q e.length p), (24, 2, .func (.func 140) #[] #[pQ U 0, pQ T 0, pQ R 0, pQ Q 0]), (25, 3, iN ((pXY D j).1)), (26, 4, iN ((pXY D j).2)), (27, 5, iN ap), (28, 6, iN E), (29, 7, .slice y ([E].length) 1), (30, 8, .slice x ((e ++ [E]).length) u), (31, 9, pQ b8 2)] L f0 ∧ Sat Iq (BB64 :: HL.ob aS (.deferred (some [])) :: rL [(10, blk b8 26 (cL0 D O x ((e ++ [E]).length) u))] (blk b8 26 (cL0 D O q e.length p)) L :: rL [(8, osl 3 1 x (e ++ [E]).length u ((e ++ [E]).flatMap e64))] (osl 3 1 q e.length p (e.flatMap e64)) L :: blk b3 26 (cL0 0 0 none 0 0) :: blk b1 77 [.func (.func 140) #[] #[pQ U 0, pQ T 0, pQ R 0, pQ Q 0]] :: F) w ∧ (L 7 = true → Rs Iq 1 y [E].length 1 ([E].flatMap e64)) ∧ (L 10 = true → L 1 = true) ∧ (L 10 = true → L 8 = true)) ⟨none, none, 0, ac, iR, (frL_ff _).symm, hs.drew, (fun h => by cases h), (fun h => by cases h), (fun h => by cases h)⟩ ⟨?_, ?_, ?_, ?_, ?_, ?_, ?_, ?_, ?_, ?_, ?_, trivial⟩ ?_
   all_goals clear hs
   · rintro L f w _ hL ⟨y, x, u, Iq, t, rfl, hs, l, d, c⟩
     refine oF (b := b8) (o := 0) fl26_2 rfl ?_
     exact oN ⟨rfl, rfl, y, x, u, Iq, t, fS rfl rfl, hs, (fun h => l h), d, c⟩
   · rintro L f w ⟨aD, _⟩ hL ⟨y, x, u, Iq, t, rfl, hs, l, d, c⟩
     replace hs := hs.eqv (k := 2) rfl ((rL_f (show L 10 = false from pF d hL) (rL_n)))
     refine ld1 (k := 2) hs rfl (fG rfl aD) ty24 rfl ?_
     replace hs := hs.eqv (k := 2) rfl (Eq.symm (a := rL [(10, blk b8 26 (cL0 D O x ((e ++ [E]).length) u))] (blk b8 26 (cL0 D O q e.length p)) (setL L 1)) (((rL_f (L := setL L 1) (show L 10 = false from pF d hL) (rL_n)))))
     exact oN ⟨rfl, rfl, y, x, u, Iq, t, fS rfl rfl, hs, (fun h => l h), (fun _ => rfl), c⟩
   · rintro L f w _ hL ⟨y, x, u, Iq, t, rfl, hs, l, d, c⟩
     refine ld1 (k := 5) hs rfl rfl ty77 rfl ?_
     exact oN ⟨rfl, rfl, y, x, u, Iq, t, fS rfl rfl, hs, (fun h => l h), d, c⟩
   · rintro L f w _ hL ⟨y, x, u, Iq, t, rfl, hs, l, d, c⟩
     refine mI rfl ?_
     exact oN ⟨rfl, rfl, y, x, u, Iq, t, fS rfl rfl, hs, (fun h => l h), d, c⟩
   · rintro L f w _ hL ⟨y, x, u, Iq, t, rfl, hs, l, d, c⟩
     refine mI rfl ?_
     exact oN ⟨rfl, rfl, y, x, u, Iq, t, fS rfl rfl, hs, (fun h => l h), d, c⟩
   · rintro L f w ⟨aC, aB, aA, _⟩ hL ⟨y, x, u, Iq, t, rfl, hs, l, d, c⟩
     replace ag := ag.mono ((W.trans A).trans t); replace af := af.mono ((W.trans A).trans t); replace aa := aa.mono ((W.trans A).trans t); replace ae := ae.mono ((W.trans A).trans t); replace Z := Z.mono ((W.trans A).trans t); replace ad := ad.mono ((W.trans A).trans t)
     refine oC (fi := []) (vs := [iN ((pXY D j).1), iN ((pXY D j).2)]) (ca := [pQ U 0, pQ T 0, pQ R 0, pQ Q 0]) (fG rfl aC) ⟨(fG rfl aB), (fG rfl aA), trivial⟩ en140 (f140_ok _ _ _ _ _ _ _ _ _ aG hs ag af aa ae Z ad) ?_
     clear hs; rintro _ w ⟨aV, an, hs, rfl⟩
     exact oN ⟨rfl, rfl, y, x, u, aV, (t.trans an), fS rfl rfl, hs, (fun h => (l h).mono an), d, c⟩
   · rintro L f w ⟨az, _, _⟩ hL ⟨y, x, u, Iq, t, rfl, hs, l, d, c⟩
     refine oC (fi := []) (vs := [iN ap]) (ca := []) rfl ⟨(fG rfl az), trivial⟩ en122 (f122_ok _ aF hs) ?_
     clear hs; rintro _ w ⟨aU, am, hs, rfl⟩
     exact oN ⟨rfl, rfl, y, x, u, aU, (t.trans am), fS rfl rfl, hs, (fun h => (l h).mono am), d, c⟩
   · rintro L f w ⟨aq, _⟩ hL ⟨y, x, u, Iq, t, rfl, hs, l, d, c⟩
     refine ow_buildSlice (vp := [(0, iN E)]) (cs := [iN E]) hs sl24 ty3 rfl ⟨rfl, (fG rfl aq), trivial⟩ (by decide) rfl (by decide) ?_
     clear hs; intro y aP w av hs V
     replace V : Rs aP 1 y [E].length 1 ([E].flatMap e64) := V
     exact oN ⟨rfl, rfl, y, x, u, aP, (t.trans av), (Eq.trans (fSG (i := 7) rfl rfl) (rfl)), hs, (fun _ => V), d, c⟩
   · rintro L f w ⟨ar, al, aq, _⟩ hL ⟨y, x, u, Iq, t, rfl, hs, l, d, c⟩
     have V := l al
     replace hs := hs.eqv (k := 3) rfl ((rL_f hL (rL_n)))
     replace hs := hs.eqv (k := 2) rfl ((rL_f (show L 10 = false from pF c hL) (rfl)))
     refine ow_appendT (k := 3) (enc := e64) (X := e) (Y := [E]) hs rfl sl24 ty3 el3 rfl (fG rfl ar) (fG rfl al) V (fun _ => rfl) aJ (by decide) ?_
     clear hs; intro x u w hs
     replace hs := hs.eqv (k := 2) rfl (Eq.symm (a := rL [(10, blk b8 26 (cL0 D O x ((e ++ [E]).length) u))] (blk b8 26 (cL0 D O q e.length p)) (setL L 8)) (((rL_f (L := setL L 8) (show L 10 = false from pF c hL) (rfl)))))
     exact oN ⟨rfl, rfl, y, x, u, Iq, t, (Eq.trans (fSG (i := 8) rfl rfl) (rfl)), hs, (fun h => l h), d, (fun _ => rfl)⟩
   · rintro L f w ⟨aD, ar, aC, aB, aA, az, aq, al, ay, _⟩ hL ⟨y, x, u, Iq, t, rfl, hs, l, d, c⟩
     have V := l al
     refine oF (b := b8) (o := 0) fl26_2 rfl ?_
     exact oN ⟨rfl, rfl, y, x, u, Iq, t, fS rfl rfl, hs, (fun h => l h), d, c⟩
   · rintro L f w ⟨aT, ay, _, aD, ar, aC, aB, aA, az, aq, al, _, _⟩ hL ⟨y, x, u, Iq, t, rfl, hs, l, d, c⟩
     have V := l al
     replace hs := hs.eqv (k := 2) rfl ((rL_f hL (rL_n)))
     refine oS (k := 2) (vs := [.slice x ((e ++ [E]).length) u]) (cs' := (cL0 D O x ((e ++ [E]).length) u)) hs rfl (fG rfl aT) (fG rfl ay) ty24 rfl rfl (nLe rfl) rfl rfl ?_
     clear hs; intro w hs
     exact oN ⟨rfl, rfl, y, x, u, Iq, t, frL_no rfl, hs, (fun h => l h), (fun _ => ar), (fun _ => ay)⟩
   rintro L f w hall ⟨y, x, u, aR, au, rfl, hs, V, _, _⟩
   rw [frL_tt _ rfl hall]
   replace hs := hs.eqv (k := 2) rfl (rL_t (hall 10 (nLe rfl)))
   replace hs := hs.eqv (k := 3) rfl (rL_t (hall 8 (nLe rfl)))
   replace V := V (hall 7 (nLe rfl))
   refine blockK_n ?_
   obtain rfl := oJ hm
   refine ⟨rfl, aR, 0, _, hs, rfl, ?_⟩
   clear hs; intro w hs
   exact ⟨rfl, e ++ [E], x, u, aR, (A.trans au), (by rw [show (pN D O) - (j + 1) = (pN D O) - 1 - j by omega]; exact hit2), hs⟩
 clear hm hs
 rintro _ w ⟨e, q, p, ac, A, hit, hs⟩
 rw [Nat.sub_self] at hit
 obtain rfl := oJ hit
 refine ⟨ac, _, hs, ?_⟩
 clear hs; intro w hs
 replace hm := aH
 refine blockK_n <| sQR <| cR <| oL (k := 1) (vs := (cL0 D O q e.length p)) (v := .agg (cL0 D O q e.length p).toArray) hs rfl rfl ty26 rfl rfl rfl <| oS (k := 3) (vs := (cL0 D O q e.length p)) (cs' := (cL0 D O q e.length p)) hs rfl rfl rfl ty26 rfl rfl (nLe rfl) rfl rfl ?_
 clear hs; intro w hs
 refine oN <| sK <| cw_ret <| ret_mark (k := 0) hs rfl ?_
 clear hs; intro w hs
 refine ret_okM (rs := [.cell 6 26]) (vs := [.agg (cL0 D O q e.length p).toArray]) (.inr rfl) rfl ⟨⟨_, true, _, (cL0 D O q e.length p), rfl, ty26, CA_blk (off := 0) (m := 3) (hs.blk (k := 2) rfl), rfl, rfl⟩, trivial⟩ ?_
 obtain rfl := oJ hm
 replace hs := hs.erase 0
 replace hs := hs.erase 1
 replace hs := hs.erase 1
 exact ⟨ac, q, p, (W.trans A), hs, rfl⟩
def f104_m (d : Int) (c : Int) (j : List Int) (i : Int) (h : Int) (e : List Int) (x2 : Int) : Option (Int × Int × List Int × Int) :=
  ((f139_m ).bind fun r9 => ((f85_m d c j).bind fun az => ((if (!az) = true then some true else ((f85_m i h e).bind fun ay => some (!ay))).bind fun aC => (if aC = true then some (0, 0, ([] : List Int), 20) else ((if ¬ (d = i) then some true else some (decide (¬ (c = h)))).bind fun aB => (if aB = true then some (0, 0, ([] : List Int), 21) else ((if x2 < 1 then some true else some (decide (7 ≤ (w64 (x2))))).bind fun aA => (if aA = true then some (0, 0, ([] : List Int), 2) else ((f87a_m d c x2 d c j i h e).bind fun Y => some (Y.1, Y.2.1, Y.2.2, 0))))))))))
theorem f104_ok (d : Int) (c : Int) (j : List Int) (i : Int) (h : Int) (e : List Int) (x2 : Int) {r : Int × Int × List Int × Int} (hm : f104_m d c j i h e x2 = some r) {t : Option Addr} {q : Nat} {s : Option Addr} {p : Nat} {I : Im} {F : List HP} {w : World} (hs : Sat I (F) w) (N : Rs I 1 t j.length q (j.flatMap e64)) (M : Rs I 1 s e.length p (e.flatMap e64)) :
    CV P 104 [.agg (cL0 d c t j.length q).toArray, .agg (cL0 i h s e.length p).toArray, .int .u8 x2] w fun v w' => ∃ (J : Im) (a2 : Option Addr) (c2 : Nat), Im.le I J ∧ Sat J (osl 3 1 a2 r.2.2.1.length c2 (r.2.2.1.flatMap e64) :: F) w' ∧ v = .tuple #[.agg (cL0 r.1 r.2.1 a2 r.2.2.1.length c2).toArray, iN r.2.2.2] := by
 unfold f104_m at hm
 refine cv_of (n := 49) Proofs.Tryz.func104 rfl rfl (nLe rfl) <| cQ <| cR <| oB (v := .agg (cL0 d c t j.length q).toArray) (cs := (cL0 d c t j.length q)) hs rfl rfl ?_
 clear hs; intro b1 w hs
 refine oB (v := .agg (cL0 i h s e.length p).toArray) (cs := (cL0 i h s e.length p)) hs rfl rfl ?_
 clear hs; intro b3 w hs
 refine oB (v := .int .u8 x2) (cs := [.int .u8 x2]) hs rfl rfl ?_
 clear hs; intro b5 w hs
 refine ow_alloc hs ty26 rfl ?_
 clear hs; intro b7 w hs
 refine asI rfl <| oN <| sQR <| cR ?_
 obtain ⟨r9, aM, hm⟩ := bS hm
 refine oC (fi := []) (vs := []) (ca := []) rfl trivial en139 (f139_ok  aM hs) ?_
 clear hs; rintro _ w ⟨aY, A, hs, rfl⟩
 refine ow_alloc hs ty269 rfl ?_
 clear hs; intro ag w hs
 refine oS (k := 0) (vs := [.nilFunc, .func (.func 168) #[] #[], .func (.func 169) #[] #[], .func (.func 170) #[] #[], .func (.func 171) #[] #[], .func (.func 172) #[] #[], .func (.func 173) #[] #[]]) (cs' := [.nilFunc, .func (.func 168) #[] #[], .func (.func 169) #[] #[], .func (.func 170) #[] #[], .func (.func 171) #[] #[], .func (.func 172) #[] #[], .func (.func 173) #[] #[]]) hs rfl rfl rfl ty269 rfl rfl (nLe rfl) rfl rfl ?_
 clear hs; intro w hs
 refine oN <| sK <| cw_block <| cQ <| cR <| oL (k := 4) (vs := (cL0 d c t j.length q)) (v := .agg (cL0 d c t j.length q).toArray) hs rfl rfl ty26 rfl rfl rfl ?_
 obtain ⟨az, aL, hm⟩ := bS hm
 replace N := N.mono A
 refine oC (fi := []) (vs := [.agg (cL0 d c t j.length q).toArray]) (ca := []) rfl ⟨rfl, trivial⟩ en85 (f85_ok _ _ _ aL hs N) ?_
 clear hs; rintro _ w ⟨aO, z, hs, rfl⟩
 refine oV (x_not (b := az) rfl) rfl <| mB rfl ?_
 obtain ⟨aC, y, hm⟩ := bS hm
 refine oJN 4 (fun f ds w => ∃ (aj : Im), ds = [] ∧ Im.le aO aj ∧ Sat aj (blk ag 269 [.nilFunc, .func (.func 168) #[] #[], .func (.func 169) #[] #[], .func (.func 170) #[] #[], .func (.func 171) #[] #[], .func (.func 172) #[] #[], .func (.func 173) #[] #[]] :: blk b7 26 (cL0 0 0 none 0 0) :: blk b5 5 [.int .u8 x2] :: blk b3 26 (cL0 i h s e.length p) :: blk b1 26 (cL0 d c t j.length q) :: F) w ∧ f 24 = .bool aC ∧ f 3 = pQ b1 0 ∧ f 4 = pQ b3 0 ∧ f 5 = pQ b5 0 ∧ f 6 = pQ b7 0 ∧ f 7 = iN 0 ∧ f 8 = pQ ag 0) ?_ ?_
 · by_cases x : (!az) = true
   · rw [if_pos x] at y
     refine oO (b := true) (yO rfl rfl x) rfl <| oO (b := true) (yO rfl rfl x) rfl <| oO (b := true) (yO rfl rfl x) rfl <| oV (xPt (v := .bool true) ((rfl : ev _ _ _ = _).trans (congrArg Value.bool x)) rfl) rfl <| oN ?_
     obtain rfl := oJ y
     exact ⟨aO, rfl, iR, hs, rfl, rfl, rfl, rfl, rfl, rfl, rfl⟩
   rw [if_neg x] at y
   refine oG (yO rfl rfl (bF x)) <| oL (k := 3) (vs := (cL0 i h s e.length p)) (v := .agg (cL0 i h s e.length p).toArray) hs rfl rfl ty26 rfl rfl rfl <| oG (yO rfl rfl (bF x)) ?_
   obtain ⟨ay, aK, y⟩ := bS y
   replace M := M.mono (A.trans z)
   refine oC (fi := []) (vs := [.agg (cL0 i h s e.length p).toArray]) (ca := []) rfl ⟨rfl, trivial⟩ en85 (f85_ok _ _ _ aK hs M) ?_
   clear hs; rintro _ w ⟨aQ, aG, hs, rfl⟩
   refine oG (yO rfl rfl (bF x)) <| oV (x_not (b := ay) rfl) rfl <| oV (xPf (v := .bool (!ay)) ((rfl : ev _ _ _ = _).trans (congrArg Value.bool (bF x))) rfl) rfl <| oN ?_
   obtain rfl := oJ y
   exact ⟨aQ, rfl, aG, hs, rfl, rfl, rfl, rfl, rfl, rfl, rfl⟩
 clear y hs
 rintro f ds w ⟨aj, rfl, Q, hs, htbb21, H, G, ad, D, ac, aa⟩
 refine asB htbb21 <| oN <| sK ?_
 by_cases an : aC = true
 · rw [if_pos an] at hm
   refine cIt rfl an <| cQ <| cR <| oU (vp := []) (cs := (cL0 0 0 none 0 0)) st26 ty26 trivial rfl <| oS (k := 1) (vs := (cL0 0 0 none 0 0)) (cs' := (cL0 0 0 none 0 0)) hs rfl D rfl ty26 rfl rfl (nLe rfl) rfl rfl ?_
   clear hs; intro w hs
   refine asI rfl <| oN <| sK <| cw_ret <| blockK_r <| rK (rs := [.cell 6 26, .tmp 7]) (vs := [.agg (cL0 0 0 none 0 0).toArray, iN 20]) (.inr rfl) rfl ⟨⟨_, true, _, (cL0 0 0 none 0 0), D, ty26, CA_blk (off := 0) (m := 3) (hs.blk (k := 1) rfl), rfl, rfl⟩, rfl, trivial⟩ ?_
   obtain rfl := oJ hm
   replace hs := hs.pushNil 3 1
   replace hs := hs.erase 1
   replace hs := hs.erase 1
   replace hs := hs.erase 1
   replace hs := hs.erase 1
   replace hs := hs.erase 1
   exact ⟨aj, none, 0, ((A.trans z).trans Q), hs, rfl⟩
 rw [if_neg an] at hm
 refine cIf rfl (bF an) <| cQ <| cR <| oF (b := b1) (o := 0) fl26_0 H <| ld1 (k := 4) hs rfl rfl ty3 rfl <| oF (b := b3) (o := 0) fl26_0 G <| ld1 (k := 3) hs rfl rfl ty3 rfl <| oV (x_neqD rfl rfl) rfl <| mB rfl ?_
 obtain ⟨aB, T, hm⟩ := bS hm
 refine oJN 6 (fun f ds w => ∃ (ai : Im), ds = [] ∧ Im.le aj ai ∧ Sat ai (blk ag 269 [.nilFunc, .func (.func 168) #[] #[], .func (.func 169) #[] #[], .func (.func 170) #[] #[], .func (.func 171) #[] #[], .func (.func 172) #[] #[], .func (.func 173) #[] #[]] :: blk b7 26 (cL0 0 0 none 0 0) :: blk b5 5 [.int .u8 x2] :: blk b3 26 (cL0 i h s e.length p) :: blk b1 26 (cL0 d c t j.length q) :: F) w ∧ f 38 = .bool aB ∧ f 3 = pQ b1 0 ∧ f 4 = pQ b3 0 ∧ f 5 = pQ b5 0 ∧ f 6 = pQ b7 0 ∧ f 7 = iN 0 ∧ f 8 = pQ ag 0) ?_ ?_
 · by_cases l : ¬ (d = i)
   · rw [if_pos l] at T
     refine oO (b := true) (yO rfl rfl (dT l)) rfl <| oO (b := true) (yO rfl rfl (dT l)) rfl <| oO (b := true) (yO rfl rfl (dT l)) rfl <| oO (b := true) (yO rfl rfl (dT l)) rfl <| oO (b := true) (yO rfl rfl (dT l)) rfl <| oV (xPt (v := .bool true) ((rfl : ev _ _ _ = _).trans (congrArg Value.bool (dT l))) rfl) rfl <| oN ?_
     obtain rfl := oJ T
     exact ⟨aj, rfl, iR, hs, rfl, H, G, ad, D, ac, aa⟩
   rw [if_neg l] at T
   refine oG (yO rfl rfl (dF l)) <| oF (b := b1) (o := 0) fl26_1 H <| oG (yO rfl rfl (dF l)) <| ld1 (k := 4) hs rfl rfl ty3 rfl <| oG (yO rfl rfl (dF l)) <| oF (b := b3) (o := 0) fl26_1 G <| oG (yO rfl rfl (dF l)) <| ld1 (k := 3) hs rfl rfl ty3 rfl <| oG (yO rfl rfl (dF l)) <| oV (x_neqD rfl rfl) rfl <| oV (xPf (v := .bool (decide (¬ (c = h)))) ((rfl : ev _ _ _ = _).trans (congrArg Value.bool (dF l))) rfl) rfl <| oN ?_
   obtain rfl := oJ T
   exact ⟨aj, rfl, iR, hs, rfl, H, G, ad, D, ac, aa⟩
 clear T hs
 rintro f ds w ⟨ai, rfl, V, hs, htbb32, af, ae, E, C, ab, Z⟩
 refine asB htbb32 <| oN <| sK ?_
 by_cases am : aB = true
 · rw [if_pos am] at hm
   refine cIt rfl am <| cQ <| cR <| oU (vp := []) (cs := (cL0 0 0 none 0 0)) st26 ty26 trivial rfl <| oS (k := 1) (vs := (cL0 0 0 none 0 0)) (cs' := (cL0 0 0 none 0 0)) hs rfl C rfl ty26 rfl rfl (nLe rfl) rfl rfl ?_
   clear hs; intro w hs
   refine asI rfl <| oN <| sK <| cw_ret <| blockK_r <| rK (rs := [.cell 6 26, .tmp 7]) (vs := [.agg (cL0 0 0 none 0 0).toArray, iN 21]) (.inr rfl) rfl ⟨⟨_, true, _, (cL0 0 0 none 0 0), C, ty26, CA_blk (off := 0) (m := 3) (hs.blk (k := 1) rfl), rfl, rfl⟩, rfl, trivial⟩ ?_
   obtain rfl := oJ hm
   replace hs := hs.pushNil 3 1
   replace hs := hs.erase 1
   replace hs := hs.erase 1
   replace hs := hs.erase 1
   replace hs := hs.erase 1
   replace hs := hs.erase 1
   exact ⟨ai, none, 0, (((A.trans z).trans Q).trans V), hs, rfl⟩
 rw [if_neg am] at hm
 refine cIf rfl (bF am) <| cQ <| cR <| ld1 (k := 2) hs rfl E ty5 rfl <| oV (x_lss rfl rfl) rfl <| mB rfl ?_
 obtain ⟨aA, S, hm⟩ := bS hm
 refine oJN 4 (fun f ds w => ∃ (aD : Im), ds = [] ∧ Im.le ai aD ∧ Sat aD (blk ag 269 [.nilFunc, .func (.func 168) #[] #[], .func (.func 169) #[] #[], .func (.func 170) #[] #[], .func (.func 171) #[] #[], .func (.func 172) #[] #[], .func (.func 173) #[] #[]] :: blk b7 26 (cL0 0 0 none 0 0) :: blk b5 5 [.int .u8 x2] :: blk b3 26 (cL0 i h s e.length p) :: blk b1 26 (cL0 d c t j.length q) :: F) w ∧ f 47 = .bool aA ∧ f 3 = pQ b1 0 ∧ f 4 = pQ b3 0 ∧ f 5 = pQ b5 0 ∧ f 6 = pQ b7 0 ∧ f 7 = iN 0 ∧ f 8 = pQ ag 0) ?_ ?_
 · by_cases u : x2 < 1
   · rw [if_pos u] at S
     refine oO (b := true) (yO rfl rfl (dT u)) rfl <| oO (b := true) (yO rfl rfl (dT u)) rfl <| oO (b := true) (yO rfl rfl (dT u)) rfl <| oV (xPt (v := .bool true) ((rfl : ev _ _ _ = _).trans (congrArg Value.bool (dT u))) rfl) rfl <| oN ?_
     obtain rfl := oJ S
     exact ⟨ai, rfl, iR, hs, rfl, af, ae, E, C, ab, Z⟩
   rw [if_neg u] at S
   refine oG (yO rfl rfl (dF u)) <| ld1 (k := 2) hs rfl E ty5 rfl <| oG (yO rfl rfl (dF u)) <| oV (x_conv (a := x2) it5 it3 rfl) rfl <| oG (yO rfl rfl (dF u)) <| oV (x_geq rfl rfl) rfl <| oV (xPf (v := .bool (decide (7 ≤ (w64 (x2))))) ((rfl : ev _ _ _ = _).trans (congrArg Value.bool (dF u))) rfl) rfl <| oN ?_
   obtain rfl := oJ S
   exact ⟨ai, rfl, iR, hs, rfl, af, ae, E, C, ab, Z⟩
 clear S hs
 rintro f ds w ⟨aD, rfl, X, hs, htbb38, R, ar, aq, B, aI, ap⟩
 refine asB htbb38 <| oN <| sK ?_
 by_cases al : aA = true
 · rw [if_pos al] at hm
   refine cIt rfl al <| cQ <| cR <| oU (vp := []) (cs := (cL0 0 0 none 0 0)) st26 ty26 trivial rfl <| oS (k := 1) (vs := (cL0 0 0 none 0 0)) (cs' := (cL0 0 0 none 0 0)) hs rfl B rfl ty26 rfl rfl (nLe rfl) rfl rfl ?_
   clear hs; intro w hs
   refine asI rfl <| oN <| sK <| cw_ret <| blockK_r <| rK (rs := [.cell 6 26, .tmp 7]) (vs := [.agg (cL0 0 0 none 0 0).toArray, iN 2]) (.inr rfl) rfl ⟨⟨_, true, _, (cL0 0 0 none 0 0), B, ty26, CA_blk (off := 0) (m := 3) (hs.blk (k := 1) rfl), rfl, rfl⟩, rfl, trivial⟩ ?_
   obtain rfl := oJ hm
   replace hs := hs.pushNil 3 1
   replace hs := hs.erase 1
   replace hs := hs.erase 1
   replace hs := hs.erase 1
   replace hs := hs.erase 1
   replace hs := hs.erase 1
   exact ⟨aD, none, 0, ((((A.trans z).trans Q).trans V).trans X), hs, rfl⟩
 rw [if_neg al] at hm
 refine cIf rfl (bF al) <| cQ <| cR <| oF (b := b1) (o := 0) fl26_0 R <| ld1 (k := 4) hs rfl rfl ty3 rfl <| oF (b := b1) (o := 0) fl26_1 R <| ld1 (k := 4) hs rfl rfl ty3 rfl ?_
 obtain ⟨aX, ah, aw, hs⟩ := hs.freezeB
 replace hs := hs.front (k := 1) rfl
 obtain ⟨aW, W, av, hs⟩ := hs.freezeB
 replace hs := hs.front (k := 2) rfl
 obtain ⟨aV, U, au, hs⟩ := hs.freezeB
 replace hs := hs.front (k := 1) rfl
 obtain ⟨aU, O, aN, hs⟩ := hs.freezeB
 refine oV (x_funcL (vf := []) (vc := [pQ ag 0, pQ b5 0, pQ b1 0, pQ b3 0]) trivial ⟨ap, aq, R, ar, trivial⟩) rfl ?_
 obtain ⟨Y, aJ, hm⟩ := bS hm
 replace M := M.mono ((((((((A.trans z).trans Q).trans V).trans X).trans ah).trans W).trans U).trans O); replace N := N.mono (((((((z.trans Q).trans V).trans X).trans ah).trans W).trans U).trans O); replace aw := aw.mono ((W.trans U).trans O); replace av := av.mono (U.trans O); replace au := au.mono O
 refine oC (fi := []) (vs := [iN d, iN c, .func (.func 140) #[] #[pQ ag 0, pQ b5 0, pQ b1 0, pQ b3 0]]) (ca := []) rfl ⟨rfl, rfl, rfl, trivial⟩ en87 (f87a_ok _ _ _ _ _ _ _ _ _ aJ hs aw av N au M aN) ?_
 clear hs; rintro _ w ⟨aP, L, K, aF, hs, rfl⟩
 refine oS (k := 1) (vs := (rL2 Y L K)) (cs' := (rL2 Y L K)) hs rfl B rfl ty26 rfl rfl (nLe rfl) rfl rfl ?_
 clear hs; intro w hs
 refine asI rfl <| oN <| sK <| cw_ret <| blockK_r <| rK (rs := [.cell 6 26, .tmp 7]) (vs := [.agg (rL2 Y L K).toArray, iN 0]) (.inr rfl) rfl ⟨⟨_, true, _, (rL2 Y L K), B, ty26, CA_blk (off := 0) (m := 3) (hs.blk (k := 1) rfl), rfl, rfl⟩, rfl, trivial⟩ ?_
 obtain rfl := oJ hm
 replace hs := hs.erase 1
 exact ⟨aP, L, K, (((((((((A.trans z).trans Q).trans V).trans X).trans ah).trans W).trans U).trans O).trans aF), hs, rfl⟩
def f177_l0 (b : List Int) (t : Int) : Nat → Int → Option (Sum Unit Int)
  | 0, _ => none
  | k + 1, a => (if a < (b.length : Int) then (if 0 ≤ a ∧ a < (b.length : Int) then (if t = (at' b a) then some (Sum.inr a) else (f177_l0 b t k (w64 (a + 1)))) else none) else some (Sum.inl ()))
def f177_m (b : List Int) (t : Int) : Option Int :=
  (lb (S := Unit) (f177_l0 b t FUEL 0) id (fun z => some (-1)))
theorem f177_ok (b : List Int) (t : Int) {r : Int} (hm : f177_m b t = some r) {C : Option Addr} {B : Nat} {I : Im} {F : List HP} {w : World} (hs : Sat I (F) w) (u : Rs I 1 C b.length B (b.flatMap e64)) :
    CV P 177 [.slice C b.length B, iN t] w fun v w' => ∃ (J : Im), Im.le I J ∧ Sat J (F) w' ∧ v = iN r := by
 unfold f177_m at hm
 refine cv_of (n := 19) Proofs.Tryz.func177 rfl rfl (nLe rfl) <| cQ <| cR <| asI rfl <| oN <| sK ?_
 obtain ⟨D, G, y⟩ := lb_some hm
 replace hm := G; clear G
 refine cJ (fun f ds w => ∃ (z : Unit) (x : Im), ds = [] ∧ Im.le I x ∧ D = Sum.inl z ∧ Sat x (F) w ∧ f 4 = iN 0) ?_ ?_
 · refine cQ <| cR <| mS rfl <| oV (x_len sl24 rfl) rfl <| mI rfl <| oN <| sK <| cw_block ?_
   refine cL (S := fun k f ds w => ∃ (a : Int), ∃ (s : Im), ds = [] ∧ Im.le I s ∧ f177_l0 b t k a = some D ∧ Sat s (F) w ∧ f 0 = .slice C b.length B ∧ f 1 = iN t ∧ f 4 = iN 0 ∧ f 7 = iN (b.length : Int) ∧ f 8 = iN a) ?_ (k := FUEL) ⟨0, I, rfl, iR, hm, hs, rfl, rfl, rfl, rfl, rfl⟩
   clear hm hs
   rintro k f ds w ⟨a, s, rfl, d, hm, hs, m, l, j, h, c⟩
   rcases k with _ | k
   · unfold f177_l0 at hm; cases hm
   unfold f177_l0 at hm
   refine cQ <| cR <| oV (x_lss c h) rfl <| oN <| sQR ?_
   by_cases q : a < (b.length : Int)
   · rw [if_pos q] at hm
     refine cIt rfl (dT q) <| cw_skip <| sQR <| cw_block <| cQ <| cR <| mI c <| asI rfl <| oN <| sQR ?_
     refine cR <| mI l <| mS m <| mI rfl ?_
     have e := (iS hm).1
     replace hm := (iS hm).2
     replace u := u.mono d
     refine oI (i := a) sl24 ty3 rfl rfl e.1 e.2 (Rs.some u (by have := e; omega)) <| oLR (p := a.toNat * 1) (vs := [iN (at' b a)]) (v := iN (at' b a)) hs u rfl ty3 (flat_at (enc := e64) (sz := 1) (fun _ => rfl) b a e.1 e.2 0 1 (by decide)) rfl rfl <| oV (x_eql rfl rfl) rfl <| oN <| sK ?_
     by_cases o : t = (at' b a)
     · rw [if_pos o] at hm
       refine cIt rfl (dT o) <| cQ <| cR <| mI rfl <| asI rfl <| oN <| sK <| cw_ret <| blockK_r <| seqK_r <| loopK_r <| blockK_r ?_
       refine joinK_r <| rK (rs := [.tmp 4]) (vs := [iN a]) (.inr rfl) rfl ⟨rfl, trivial⟩ ?_
       replace hm := lret hm y
       obtain rfl := oJ hm
       exact ⟨s, d, hs, rfl⟩
     rw [if_neg o] at hm
     refine cIf rfl (dF o) <| cw_skip <| blockK_n <| sK <| cR <| oV (x_add c rfl) rfl <| mI rfl <| oN ?_
     exact lN ⟨k, Nat.lt_succ_self k, w64 (a + 1), s, rfl, d, hm, hs, m, l, j, h, rfl⟩
   rw [if_neg q] at hm
   refine cIf rfl (dF q) <| cw_exit <| seqK_x <| loopK_x <| blockK_hit ?_
   obtain rfl := oJ hm
   refine jN ⟨(), s, rfl, d, rfl, hs, j⟩
 clear hm hs
 rintro f ds w ⟨z, x, rfl, A, rfl, hs, E⟩
 replace hm := lexit rfl y
 refine cQ <| cR <| asI rfl <| oN <| sK <| cw_ret <| rK (rs := [.tmp 4]) (vs := [iN (-1)]) (.inr rfl) rfl ⟨rfl, trivial⟩ ?_
 obtain rfl := oJ hm
 exact ⟨x, A, hs, rfl⟩
def f144_m (a : List Int) (d : Int) : Option Bool :=
  ((f177_m a d).bind fun f => some (decide (0 ≤ f)))
theorem f144_ok (a : List Int) (d : Int) {r : Bool} (hm : f144_m a d = some r) {c : Option Addr} {b : Nat} {I : Im} {F : List HP} {w : World} (hs : Sat I (F) w) (h : Rs I 1 c a.length b (a.flatMap e64)) :
    CV P 144 [.slice c a.length b, iN d] w fun v w' => ∃ (J : Im), Im.le I J ∧ Sat J (F) w' ∧ v = .bool r := by
 unfold f144_m at hm
 refine cv_of (n := 9) Proofs.Tryz.func144 rfl rfl (nLe rfl) <| cQ <| cR <| asB rfl <| oN <| sQR <| cR <| mS rfl <| mI rfl ?_
 obtain ⟨f, i, hm⟩ := bS hm
 refine oC (fi := []) (vs := [.slice c a.length b, iN d]) (ca := []) rfl ⟨rfl, rfl, trivial⟩ en177 (f177_ok _ _ i hs h) ?_
 clear hs; rintro _ w ⟨j, e, hs, rfl⟩
 refine oV (x_geq rfl rfl) rfl <| asB rfl <| oN <| sK <| cw_ret <| rK (rs := [.tmp 4]) (vs := [.bool (decide (0 ≤ f))]) (.inr rfl) rfl ⟨rfl, trivial⟩ ?_
 obtain rfl := oJ hm
 exact ⟨j, e, hs, rfl⟩
def f117_m (t : Int) (s : Int) (C : Int) : Option Bool :=
  ((f144_m [1, 3, 5] t).bind fun L => ((if L = true then ((f144_m [1, 3, 5] s).bind fun u => some u) else some false).bind fun p => ((if p = true then some (decide (C = (w64 (t * s)))) else some false).bind fun o => some o)))
theorem f117_ok (t : Int) (s : Int) (C : Int) {r : Bool} (hm : f117_m t s C = some r)  {I : Im} {F : List HP} {w : World} (hs : Sat I (F) w)  :
    CV P 117 (cL1 t s C) w fun v w' => ∃ (J : Im), Im.le I J ∧ Sat J (F) w' ∧ v = .bool r := by
 unfold f117_m at hm
 refine cv_of (n := 22) Proofs.Tryz.func117 rfl rfl (nLe rfl) <| cQ <| cR <| asB rfl <| oN <| sQR <| cR <| ow_buildSlice (vp := [(0, iN 1), (1, iN 3), (2, iN 5)]) (cs := (cL1 1 3 5)) hs sl24 ty3 rfl ⟨rfl, rfl, rfl, rfl, rfl, rfl, trivial⟩ (by decide) rfl (by decide) ?_
 clear hs; intro Q S w H hs B
 replace B : Rs S 1 Q [1, 3, 5].length 3 ([1, 3, 5].flatMap e64) := B
 refine mI rfl ?_
 obtain ⟨L, M, hm⟩ := bS hm
 refine oC (fi := []) (vs := [.slice Q ([1, 3, 5].length) 3, iN t]) (ca := []) rfl ⟨rfl, rfl, trivial⟩ en144 (f144_ok _ _ M hs B) ?_
 clear hs; rintro _ w ⟨R, G, hs, rfl⟩
 refine mB rfl ?_
 obtain ⟨p, d, hm⟩ := bS hm
 refine oJN 4 (fun f ds w => ∃ (i : Im), ds = [] ∧ Im.le R i ∧ Sat i (F) w ∧ f 14 = .bool p ∧ f 0 = iN t ∧ f 1 = iN s ∧ f 2 = iN C ∧ f 6 = .bool false) ?_ ?_
 · by_cases c : L = true
   · rw [if_pos c] at d
     refine oG (yO rfl rfl c) <| ow_buildSlice (vp := [(0, iN 1), (1, iN 3), (2, iN 5)]) (cs := (cL1 1 3 5)) hs sl24 ty3 rfl ⟨rfl, rfl, rfl, rfl, rfl, rfl, trivial⟩ (by decide) rfl (by decide) ?_
     clear hs; intro K O w z hs m
     replace m : Rs O 1 K [1, 3, 5].length 3 ([1, 3, 5].flatMap e64) := m
     refine oG (yO rfl rfl c) <| mI rfl <| oG (yO rfl rfl c) ?_
     obtain ⟨u, E, d⟩ := bS d
     refine oC (fi := []) (vs := [.slice K ([1, 3, 5].length) 3, iN s]) (ca := []) rfl ⟨rfl, rfl, trivial⟩ en144 (f144_ok _ _ E hs m) ?_
     clear hs; rintro _ w ⟨N, y, hs, rfl⟩
     refine oV (xPt (v := .bool u) ((rfl : ev _ _ _ = _).trans (congrArg Value.bool c)) rfl) rfl <| oN ?_
     obtain rfl := oJ d
     exact ⟨N, rfl, (z.trans y), hs, rfl, rfl, rfl, rfl, rfl⟩
   rw [if_neg c] at d
   refine oO (b := false) (yO rfl rfl (bF c)) rfl <| oO (b := false) (yO rfl rfl (bF c)) rfl <| oO (b := false) (yO rfl rfl (bF c)) rfl <| oV (xPf (v := .bool false) ((rfl : ev _ _ _ = _).trans (congrArg Value.bool (bF c))) rfl) rfl <| oN ?_
   obtain rfl := oJ d
   exact ⟨R, rfl, iR, hs, rfl, rfl, rfl, rfl, rfl⟩
 clear d hs
 rintro f ds w ⟨i, rfl, A, hs, htbb10, l, k, j, h⟩
 refine mB htbb10 ?_
 obtain ⟨o, e, hm⟩ := bS hm
 refine oJN 6 (fun f ds w => ∃ (q : Im), ds = [] ∧ Im.le i q ∧ Sat q (F) w ∧ f 21 = .bool o ∧ f 6 = .bool false) ?_ ?_
 · by_cases a : p = true
   · rw [if_pos a] at e
     refine oG (yO rfl rfl a) <| mI j <| oG (yO rfl rfl a) <| mI l <| oG (yO rfl rfl a) <| mI k <| oG (yO rfl rfl a) <| oV (x_mul rfl rfl) rfl <| oG (yO rfl rfl a) <| oV (x_eql rfl rfl) rfl <| oV (xPt (v := .bool (decide (C = (w64 (t * s))))) ((rfl : ev _ _ _ = _).trans (congrArg Value.bool a)) rfl) rfl <| oN ?_
     obtain rfl := oJ e
     exact ⟨i, rfl, iR, hs, rfl, h⟩
   rw [if_neg a] at e
   refine oO (b := false) (yO rfl rfl (bF a)) rfl <| oO (b := false) (yO rfl rfl (bF a)) rfl <| oO (b := false) (yO rfl rfl (bF a)) rfl <| oO (b := false) (yO rfl rfl (bF a)) rfl <| oO (b := false) (yO rfl rfl (bF a)) rfl <| oV (xPf (v := .bool false) ((rfl : ev _ _ _ = _).trans (congrArg Value.bool (bF a))) rfl) rfl <| oN ?_
   obtain rfl := oJ e
   exact ⟨i, rfl, iR, hs, rfl, h⟩
 clear e hs
 rintro f ds w ⟨q, rfl, x, hs, htbb23, D⟩
 refine asB htbb23 <| oN <| sK <| cw_ret <| rK (rs := [.tmp 6]) (vs := [.bool o]) (.inr rfl) rfl ⟨rfl, trivial⟩ ?_
 obtain rfl := oJ hm
 exact ⟨q, (((H.trans G).trans A).trans x), hs, rfl⟩
def f145_l0 (d : List Bool) (x : Bool) : Nat → Int → Option (Sum Unit Int)
  | 0, _ => none
  | k + 1, c => (if c < (d.length : Int) then (if 0 ≤ c ∧ c < (d.length : Int) then (if (x == (at' d c)) = true then some (Sum.inr c) else (f145_l0 d x k (w64 (c + 1)))) else none) else some (Sum.inl ()))
def f145_m (d : List Bool) (x : Bool) : Option Int :=
  (lb (S := Unit) (f145_l0 d x FUEL 0) id (fun B => some (-1)))
theorem f145_ok (d : List Bool) (x : Bool) {r : Int} (hm : f145_m d x = some r) {E : Option Addr} {D : Nat} {I : Im} {F : List HP} {w : World} (hs : Sat I (F) w) (y : Rs I 1 E d.length D (d.flatMap eB)) :
    CV P 145 [.slice E d.length D, .bool x] w fun v w' => ∃ (J : Im), Im.le I J ∧ Sat J (F) w' ∧ v = iN r := by
 unfold f145_m at hm
 refine cv_of (n := 19) Proofs.Tryz.func145 rfl rfl (nLe rfl) <| cQ <| cR <| asI rfl <| oN <| sK ?_
 obtain ⟨G, K, A⟩ := lb_some hm
 replace hm := K; clear K
 refine cJ (fun f ds w => ∃ (B : Unit) (z : Im), ds = [] ∧ Im.le I z ∧ G = Sum.inl B ∧ Sat z (F) w ∧ f 4 = iN 0) ?_ ?_
 · refine cQ <| cR <| mS rfl <| oV (x_len sl38 rfl) rfl <| mI rfl <| oN <| sK <| cw_block ?_
   refine cL (S := fun k f ds w => ∃ (c : Int), ∃ (u : Im), ds = [] ∧ Im.le I u ∧ f145_l0 d x k c = some G ∧ Sat u (F) w ∧ f 0 = .slice E d.length D ∧ f 1 = .bool x ∧ f 4 = iN 0 ∧ f 7 = iN (d.length : Int) ∧ f 8 = iN c) ?_ (k := FUEL) ⟨0, I, rfl, iR, hm, hs, rfl, rfl, rfl, rfl, rfl⟩
   clear hm hs
   rintro k f ds w ⟨c, u, rfl, h, hm, hs, q, o, m, l, e⟩
   rcases k with _ | k
   · unfold f145_l0 at hm; cases hm
   unfold f145_l0 at hm
   refine cQ <| cR <| oV (x_lss e l) rfl <| oN <| sQR ?_
   by_cases t : c < (d.length : Int)
   · rw [if_pos t] at hm
     refine cIt rfl (dT t) <| cw_skip <| sQR <| cw_block <| cQ <| cR <| mI e <| asI rfl <| oN <| sQR ?_
     refine cR <| mB o <| mS q <| mI rfl ?_
     have j := (iS hm).1
     replace hm := (iS hm).2
     replace y := y.mono h
     refine oI (i := c) sl38 ty4 rfl rfl j.1 j.2 (Rs.some y (by have := j; omega)) <| oLR (p := c.toNat * 1) (vs := [.bool (at' d c)]) (v := .bool (at' d c)) hs y rfl ty4 (flat_at (enc := eB) (sz := 1) (fun _ => rfl) d c j.1 j.2 0 1 (by decide)) rfl rfl <| oV (x_eqlB (a := x) (b := (at' d c)) bt4 rfl rfl) rfl <| oN <| sK ?_
     by_cases s : (x == (at' d c)) = true
     · rw [if_pos s] at hm
       refine cIt rfl s <| cQ <| cR <| mI rfl <| asI rfl <| oN <| sK <| cw_ret <| blockK_r <| seqK_r <| loopK_r <| blockK_r ?_
       refine joinK_r <| rK (rs := [.tmp 4]) (vs := [iN c]) (.inr rfl) rfl ⟨rfl, trivial⟩ ?_
       replace hm := lret hm A
       obtain rfl := oJ hm
       exact ⟨u, h, hs, rfl⟩
     rw [if_neg s] at hm
     refine cIf rfl (bF s) <| cw_skip <| blockK_n <| sK <| cR <| oV (x_add e rfl) rfl <| mI rfl <| oN ?_
     exact lN ⟨k, Nat.lt_succ_self k, w64 (c + 1), u, rfl, h, hm, hs, q, o, m, l, rfl⟩
   rw [if_neg t] at hm
   refine cIf rfl (dF t) <| cw_exit <| seqK_x <| loopK_x <| blockK_hit ?_
   obtain rfl := oJ hm
   refine jN ⟨(), u, rfl, h, rfl, hs, m⟩
 clear hm hs
 rintro f ds w ⟨B, z, rfl, C, rfl, hs, H⟩
 replace hm := lexit rfl A
 refine cQ <| cR <| asI rfl <| oN <| sK <| cw_ret <| rK (rs := [.tmp 4]) (vs := [iN (-1)]) (.inr rfl) rfl ⟨rfl, trivial⟩ ?_
 obtain rfl := oJ hm
 exact ⟨z, C, hs, rfl⟩
def f118_m (a : List Bool) (d : Bool) : Option Bool :=
  ((f145_m a d).bind fun f => some (decide (0 ≤ f)))
theorem f118_ok (a : List Bool) (d : Bool) {r : Bool} (hm : f118_m a d = some r) {c : Option Addr} {b : Nat} {I : Im} {F : List HP} {w : World} (hs : Sat I (F) w) (h : Rs I 1 c a.length b (a.flatMap eB)) :
    CV P 118 [.slice c a.length b, .bool d] w fun v w' => ∃ (J : Im), Im.le I J ∧ Sat J (F) w' ∧ v = .bool r := by
 unfold f118_m at hm
 refine cv_of (n := 9) Proofs.Tryz.func118 rfl rfl (nLe rfl) <| cQ <| cR <| asB rfl <| oN <| sQR <| cR <| mS rfl <| mB rfl ?_
 obtain ⟨f, i, hm⟩ := bS hm
 refine oC (fi := []) (vs := [.slice c a.length b, .bool d]) (ca := []) rfl ⟨rfl, rfl, trivial⟩ en145 (f145_ok _ _ i hs h) ?_
 clear hs; rintro _ w ⟨j, e, hs, rfl⟩
 refine oV (x_geq rfl rfl) rfl <| asB rfl <| oN <| sK <| cw_ret <| rK (rs := [.tmp 4]) (vs := [.bool (decide (0 ≤ f))]) (.inr rfl) rfl ⟨rfl, trivial⟩ ?_
 obtain rfl := oJ hm
 exact ⟨j, e, hs, rfl⟩
def f83_m (d : Int) (c : Int) : Option Int :=
  some (min d c)
theorem f83_ok (d : Int) (c : Int) {r : Int} (hm : f83_m d c = some r)  {I : Im} {F : List HP} {w : World} (hs : Sat I (F) w)  :
    CV P 83 [iN d, iN c] w fun v w' => ∃ (J : Im), Im.le I J ∧ Sat J (F) w' ∧ v = iN r := by
 unfold f83_m at hm
 refine cv_of (n := 8) Proofs.Tryz.func83 rfl rfl (nLe rfl) <| cQ <| cR <| asI rfl <| oN <| sQR <| cR <| mI rfl <| mI rfl <| oV (x_min2 (k := .i64) (a := d) (b := c) rfl rfl) rfl <| asI rfl ?_
 refine oN <| sK <| cw_ret <| rK (rs := [.tmp 4]) (vs := [iN (min d c)]) (.inr rfl) rfl ⟨rfl, trivial⟩ ?_
 obtain rfl := oJ hm
 exact ⟨I, iR, hs, rfl⟩
def f119_s0 (T : Int) (R : Int) (c : Int) (e : Int) (B : List Bool) (l : Int) (A : Int) (z : Int) (x : List Int) (u : Int) (xe : Int × Int) : Option Int :=
  (if 0 ≤ (w64 ((w64 ((xe.2) * c)) + (xe.1))) ∧ (w64 ((w64 ((xe.2) * c)) + (xe.1))) < (B.length : Int) then ((if (at' B (w64 ((w64 ((xe.2) * c)) + (xe.1)))) = true then ((f121_m A z x (w64 (T + (w64 (l * (w64 ((xe.1) - (w64 (Int.tdiv c 2)))))))) (w64 (R + (w64 (l * (w64 ((xe.2) - (w64 (Int.tdiv e 2))))))))).bind fun aE => some aE) else some false).bind fun au => (if au = true then ((f91_m A z x (w64 (T + (w64 (l * (w64 ((xe.1) - (w64 (Int.tdiv c 2)))))))) (w64 (R + (w64 (l * (w64 ((xe.2) - (w64 (Int.tdiv e 2))))))))).bind fun ar => ((f83_m u ar).bind fun Z => some Z)) else some u)) else none)
def f119_m (T : Int) (R : Int) (N : Int) (c : Int) (e : Int) (B : List Bool) (l : Int) (A : Int) (z : Int) (x : List Int) : Option Int :=
  (if (0 ≤ c ∧ c ≤ 1000000) ∧ 0 ≤ e ∧ e ≤ 1000000 then ((itFrom (S := Int) (fun j s => f119_s0 T R c e B l A z x s (pXY c j)) 0 (pN c e) N).bind fun u => some u) else none)
theorem f119_ok (T : Int) (R : Int) (N : Int) (c : Int) (e : Int) (B : List Bool) (l : Int) (A : Int) (z : Int) (x : List Int) {r : Int} (hm : f119_m T R N c e B l A z x = some r) {a6 : Nat} {Q : Nat} {aq : Option Addr} {ap : Nat} {aN : Nat} {aM : Nat} {E : Option Addr} {D : Nat} {aL : Nat} {I : Im} {F : List HP} {w : World} (hs : Sat I (F) w) (a0 : Ib I a6 3 [iN N]) (Y : Rs I 1 aq B.length ap (B.flatMap eB)) (H : Ib I Q 40 (cL0 c e aq B.length ap)) (X : Ib I aN 3 [iN l]) (M : Rs I 1 E x.length D (x.flatMap e64)) (W : Ib I aM 26 (cL0 A z E x.length D)) (an : Ib I aL 77 [.func (.func 83) #[] #[]]) :
    CV P 119 [iN T, iN R, pQ a6 0, pQ Q 0, pQ aN 0, pQ aM 0, pQ aL 0] w fun v w' => ∃ (J : Im), Im.le I J ∧ Sat J (F) w' ∧ v = iN r := by
 unfold f119_m at hm
 refine cv_ofM (n := 65) Proofs.Tryz.func119 rfl rfl (nLe rfl) <| cQ <| cR <| oB (v := iN T) (cs := [iN T]) hs rfl rfl ?_
 clear hs; intro b1 w hs
 refine oB (v := iN R) (cs := [iN R]) hs rfl rfl ?_
 clear hs; intro b3 w hs
 refine asI rfl <| oN <| sQR <| cR <| ld1I hs a0 rfl ty3 rfl <| ow_alloc hs ty3 rfl ?_
 clear hs; intro b5 w hs
 refine oS (k := 0) (vs := [iN N]) (cs' := [iN N]) hs rfl rfl rfl ty3 rfl rfl (nLe rfl) rfl rfl ?_
 clear hs; intro w hs
 refine oN <| sQR <| cQ <| cR <| oF (b := Q) (o := 0) fl40_0 rfl <| ld1I hs H rfl ty3 rfl <| oF (b := Q) (o := 0) fl40_1 rfl <| ld1I hs H rfl ty3 rfl <| oC (fi := []) (vs := [iN c, iN e]) (ca := []) rfl ⟨rfl, rfl, trivial⟩ en120 (f120_ok hs) ?_
 clear hs; rintro _ w ⟨J9, b7, b8, y, hs, rfl, a5, a4⟩
 refine oN <| sK <| cw_block ?_
 have aZ := (iS hm).1
 replace hm := (iS hm).2
 obtain ⟨aO, aY, aX⟩ := bS hm
 replace hm := aY; clear aY
 refine cw_range hs rfl en146 ?_
 clear hs; intro bh av fnD68 a9 w aJ hs
 refine CV.mono (f146_it c e aZ (Inv := fun j w => ∃ (u : Int) (U : Im), Im.le J9 U ∧ itFrom (fun j s => f119_s0 T R c e B l A z x s (pXY c j)) j ((pN c e) - j) u = some aO ∧ Sat U (a9 :: HL.ob av (.deferred (some [])) :: blk b5 3 [iN u] :: blk b3 3 [iN R] :: blk b1 3 [iN T] :: F) w) ?_ ?_ ⟨N, J9, iR, hm, hs⟩) ?_
 · rintro j w ⟨u, U, m, hit, hs⟩
   exact ⟨_, _, hs, a5.mono m, a4.mono m⟩
 · clear hm hs
   rintro j hj w ⟨u, U, m, hit, hs⟩
   obtain ⟨sn, hm, hit2⟩ := it_succ (k := (pN c e) - 1 - j) (by omega) hit
   clear hit
   unfold f119_s0 at hm
   refine yc_of (k := 0) hs aJ rfl rfl <| cQ <| cR <| asI rfl <| oN <| sK <| cR <| asI rfl <| oN ?_
   refine ⟨rfl, U, 0, _, hs, rfl, ?_⟩
   clear hs; intro BB73 w hs
   refine cw_block <| cQ ?_
   refine cD mixed rfl (fun f0 L f w => ∃ (t : Im), Im.le U t ∧ f = frL [(23, 0, iN T), (24, 1, iN l), (25, 2, iN ((pXY c j).1)), (26, 3, pQ Q 0), (27, 4, iN c), (28, 5, iN (w64 (Int.tdiv c 2))), (29, 6, iN (w64 (((pXY c j).1) - (w64 (Int.tdiv c 2))))), (30, 7, iN (w64 (l * (w64 (((pXY c j).1) - (w64 (Int.tdiv c 2))))))), (31, 8, iN (w64 (T + (w64 (l * (w64 (((pXY c j).1) - (w64 (Int.tdiv c 2))))))))), (32, 9, iN R), (33, 10, iN l), (34, 11, iN ((pXY c j).2)), (35, 12, pQ Q 1), (36, 13, iN e), (37, 14, iN (w64 (Int.tdiv e 2))), (38, 15, iN (w64 (((pXY c j).2) - (w64 (Int.tdiv e 2))))), (39, 16, iN (w64 (l * (w64 (((pXY c j).2) - (w64 (Int.tdiv e 2))))))), (40, 17, iN (w64 (R + (w64 (l * (w64 (((pXY c j).2) - (w64 (Int.tdiv e 2))))))))), (13, 18, iN (w64 (T + (w64 (l * (w64 (((pXY c j).1) - (w64 (Int.tdiv c 2))))))))), (14, 19, iN (w64 (R + (w64 (l * (w64 (((pXY c j).2) - (w64 (Int.tdiv e 2)))))))))] L f0 ∧ Sat t (BB73 :: HL.ob av (.deferred (some [])) :: blk b5 3 [iN u] :: blk b3 3 [iN R] :: blk b1 3 [iN T] :: F) w) ⟨U, iR, (frL_ff _).symm, hs.drew⟩ ⟨?_, ?_, ?_, ?_, ?_, ?_, ?_, ?_, ?_, ?_, ?_, ?_, ?_, ?_, ?_, ?_, ?_, ?_, ?_, ?_, trivial⟩ ?_
   all_goals clear hs
   · rintro L f w _ hL ⟨t, d, rfl, hs⟩
     refine ld1 (k := 4) hs rfl rfl ty3 rfl ?_
     exact oN ⟨rfl, rfl, t, d, fS rfl rfl, hs⟩
   · rintro L f w _ hL ⟨t, d, rfl, hs⟩
     replace X := X.mono ((y.trans m).trans d)
     refine ld1I hs X rfl ty3 rfl ?_
     exact oN ⟨rfl, rfl, t, d, fS rfl rfl, hs⟩
   · rintro L f w _ hL ⟨t, d, rfl, hs⟩
     refine mI rfl ?_
     exact oN ⟨rfl, rfl, t, d, fS rfl rfl, hs⟩
   · rintro L f w _ hL ⟨t, d, rfl, hs⟩
     refine oF (b := Q) (o := 0) fl40_0 rfl ?_
     exact oN ⟨rfl, rfl, t, d, fS rfl rfl, hs⟩
   · rintro L f w ⟨ai, _⟩ hL ⟨t, d, rfl, hs⟩
     replace H := H.mono ((y.trans m).trans d)
     refine ld1I hs H (fG rfl ai) ty3 rfl ?_
     exact oN ⟨rfl, rfl, t, d, fS rfl rfl, hs⟩
   · rintro L f w ⟨ah, _⟩ hL ⟨t, d, rfl, hs⟩
     refine oV (x_quo (fG rfl ah) rfl (by decide)) rfl ?_
     exact oN ⟨rfl, rfl, t, d, fS rfl rfl, hs⟩
   · rintro L f w ⟨aj, ag, _⟩ hL ⟨t, d, rfl, hs⟩
     refine oV (x_sub (fG rfl aj) (fG rfl ag)) rfl ?_
     exact oN ⟨rfl, rfl, t, d, fS rfl rfl, hs⟩
   · rintro L f w ⟨ab, ao, _⟩ hL ⟨t, d, rfl, hs⟩
     refine oV (x_mul (fG rfl ab) (fG rfl ao)) rfl ?_
     exact oN ⟨rfl, rfl, t, d, fS rfl rfl, hs⟩
   · rintro L f w ⟨ak, aK, _⟩ hL ⟨t, d, rfl, hs⟩
     refine oV (x_add (fG rfl ak) (fG rfl aK)) rfl ?_
     exact oN ⟨rfl, rfl, t, d, fS rfl rfl, hs⟩
   · rintro L f w _ hL ⟨t, d, rfl, hs⟩
     refine ld1 (k := 3) hs rfl rfl ty3 rfl ?_
     exact oN ⟨rfl, rfl, t, d, fS rfl rfl, hs⟩
   · rintro L f w _ hL ⟨t, d, rfl, hs⟩
     replace X := X.mono ((y.trans m).trans d)
     refine ld1I hs X rfl ty3 rfl ?_
     exact oN ⟨rfl, rfl, t, d, fS rfl rfl, hs⟩
   · rintro L f w _ hL ⟨t, d, rfl, hs⟩
     refine mI rfl ?_
     exact oN ⟨rfl, rfl, t, d, fS rfl rfl, hs⟩
   · rintro L f w _ hL ⟨t, d, rfl, hs⟩
     refine oF (b := Q) (o := 0) fl40_1 rfl ?_
     exact oN ⟨rfl, rfl, t, d, fS rfl rfl, hs⟩
   · rintro L f w ⟨aA, _⟩ hL ⟨t, d, rfl, hs⟩
     replace H := H.mono ((y.trans m).trans d)
     refine ld1I hs H (fG rfl aA) ty3 rfl ?_
     exact oN ⟨rfl, rfl, t, d, fS rfl rfl, hs⟩
   · rintro L f w ⟨az, _⟩ hL ⟨t, d, rfl, hs⟩
     refine oV (x_quo (fG rfl az) rfl (by decide)) rfl ?_
     exact oN ⟨rfl, rfl, t, d, fS rfl rfl, hs⟩
   · rintro L f w ⟨aB, ay, _⟩ hL ⟨t, d, rfl, hs⟩
     refine oV (x_sub (fG rfl aB) (fG rfl ay)) rfl ?_
     exact oN ⟨rfl, rfl, t, d, fS rfl rfl, hs⟩
   · rintro L f w ⟨aC, ax, _⟩ hL ⟨t, d, rfl, hs⟩
     refine oV (x_mul (fG rfl aC) (fG rfl ax)) rfl ?_
     exact oN ⟨rfl, rfl, t, d, fS rfl rfl, hs⟩
   · rintro L f w ⟨a1, aw, _⟩ hL ⟨t, d, rfl, hs⟩
     refine oV (x_add (fG rfl a1) (fG rfl aw)) rfl ?_
     exact oN ⟨rfl, rfl, t, d, fS rfl rfl, hs⟩
   · rintro L f w ⟨a2, ak, ab, aj, ai, ah, ag, ao, aK, _, _⟩ hL ⟨t, d, rfl, hs⟩
     refine asI (fG rfl a2) ?_
     exact oN ⟨rfl, rfl, t, d, fS rfl rfl, hs⟩
   · rintro L f w ⟨a3, bf, ak, ab, aj, ai, ah, ag, ao, aK, a2, a1, aC, aB, aA, az, ay, ax, aw, _, _, _⟩ hL ⟨t, d, rfl, hs⟩
     refine asI (fG rfl a3) ?_
     exact oN ⟨rfl, rfl, t, d, fS rfl rfl, hs⟩
   rintro L f w hall ⟨bb, C, rfl, hs⟩
   rw [frL_tt _ rfl hall]
   refine sQR <| cR <| oF (b := Q) (o := 0) fl40_2 rfl ?_
   replace H := H.mono ((y.trans m).trans C)
   refine ld1I hs H rfl ty38 rfl <| mI rfl <| oF (b := Q) (o := 0) fl40_0 rfl <| ld1I hs H rfl ty3 rfl <| oV (x_mul rfl rfl) rfl <| mI rfl <| oV (x_add rfl rfl) rfl ?_
   have aa := (iS hm).1
   replace hm := (iS hm).2
   replace Y := Y.mono ((y.trans m).trans C)
   refine oI (i := (w64 ((w64 (((pXY c j).2) * c)) + ((pXY c j).1)))) sl38 ty4 rfl rfl aa.1 aa.2 (Rs.some Y (by have := aa; omega)) <| oLR (p := (w64 ((w64 (((pXY c j).2) * c)) + ((pXY c j).1))).toNat * 1) (vs := [.bool (at' B (w64 ((w64 (((pXY c j).2) * c)) + ((pXY c j).1))))]) (v := .bool (at' B (w64 ((w64 (((pXY c j).2) * c)) + ((pXY c j).1))))) hs Y rfl ty4 (flat_at (enc := eB) (sz := 1) (fun _ => rfl) B (w64 ((w64 (((pXY c j).2) * c)) + ((pXY c j).1))) aa.1 aa.2 0 1 (by decide)) rfl rfl <| mB rfl ?_
   obtain ⟨au, K, hm⟩ := bS hm
   refine oJN 5 (fun f ds w => ∃ (ac : Im), ds = [] ∧ Im.le bb ac ∧ Sat ac (BB73 :: HL.ob av (.deferred (some [])) :: blk b5 3 [iN u] :: blk b3 3 [iN R] :: blk b1 3 [iN T] :: F) w ∧ f 56 = .bool au ∧ f 3 = pQ Q 0 ∧ f 4 = pQ aN 0 ∧ f 5 = pQ aM 0 ∧ f 6 = pQ aL 0 ∧ f 7 = pQ b1 0 ∧ f 8 = pQ b3 0 ∧ f 9 = iN 0 ∧ f 10 = pQ b5 0 ∧ f 13 = iN (w64 (T + (w64 (l * (w64 (((pXY c j).1) - (w64 (Int.tdiv c 2)))))))) ∧ f 14 = iN (w64 (R + (w64 (l * (w64 (((pXY c j).2) - (w64 (Int.tdiv e 2))))))))) ?_ ?_
   · by_cases G : (at' B (w64 ((w64 (((pXY c j).2) * c)) + ((pXY c j).1)))) = true
     · rw [if_pos G] at K
       refine oG (yO rfl rfl G) ?_
       replace W := W.mono ((y.trans m).trans C)
       refine ow_loadI (vs := (cL0 A z E x.length D)) (v := .agg (cL0 A z E x.length D).toArray) hs W rfl ty26 rfl rfl rfl <| oG (yO rfl rfl G) <| mI rfl <| oG (yO rfl rfl G) <| mI rfl <| oG (yO rfl rfl G) ?_
       obtain ⟨aE, aW, K⟩ := bS K
       replace M := M.mono ((y.trans m).trans C)
       refine oC (fi := []) (vs := [.agg (cL0 A z E x.length D).toArray, iN (w64 (T + (w64 (l * (w64 (((pXY c j).1) - (w64 (Int.tdiv c 2)))))))), iN (w64 (R + (w64 (l * (w64 (((pXY c j).2) - (w64 (Int.tdiv e 2))))))))]) (ca := []) rfl ⟨rfl, rfl, rfl, trivial⟩ en121 (f121_ok _ _ _ _ _ aW hs M) ?_
       clear hs; rintro _ w ⟨be, aI, hs, rfl⟩
       refine oV (xPt (v := .bool aE) ((rfl : ev _ _ _ = _).trans (congrArg Value.bool G)) rfl) rfl <| oN ?_
       obtain rfl := oJ K
       exact ⟨be, rfl, aI, hs, rfl, rfl, rfl, rfl, rfl, rfl, rfl, rfl, rfl, rfl, rfl⟩
     rw [if_neg G] at K
     refine oO (b := false) (yO rfl rfl (bF G)) rfl <| oO (b := false) (yO rfl rfl (bF G)) rfl <| oO (b := false) (yO rfl rfl (bF G)) rfl <| oO (b := false) (yO rfl rfl (bF G)) rfl <| oV (xPf (v := .bool false) ((rfl : ev _ _ _ = _).trans (congrArg Value.bool (bF G))) rfl) rfl <| oN ?_
     obtain rfl := oJ K
     exact ⟨bb, rfl, iR, hs, rfl, rfl, rfl, rfl, rfl, rfl, rfl, rfl, rfl, rfl, rfl⟩
   clear K hs
   rintro f ds w ⟨ac, rfl, O, hs, htbb77, aT, aS, am, al, aR, aQ, aP, V, af, ae⟩
   refine oN <| sK ?_
   by_cases ad : au = true
   · rw [if_pos ad] at hm
     refine cIt htbb77 ad ?_
     obtain ⟨ar, aV, hm⟩ := bS hm
     obtain ⟨Z, aU, hm⟩ := bS hm
     refine cD mixed rfl (fun f0 L f w => ∃ (t : Im), Im.le ac t ∧ f = frL [(57, 0, .func (.func 83) #[] #[]), (58, 1, iN u), (59, 2, .agg (cL0 A z E x.length D).toArray), (60, 3, iN (w64 (T + (w64 (l * (w64 (((pXY c j).1) - (w64 (Int.tdiv c 2))))))))), (61, 4, iN (w64 (R + (w64 (l * (w64 (((pXY c j).2) - (w64 (Int.tdiv e 2))))))))), (62, 5, iN ar), (63, 6, iN Z)] L f0 ∧ Sat t (BB73 :: HL.ob av (.deferred (some [])) :: rL [(7, blk b5 3 [iN Z])] (blk b5 3 [iN u]) L :: blk b3 3 [iN R] :: blk b1 3 [iN T] :: F) w ∧ (L 7 = true → L 1 = true)) ⟨ac, iR, (frL_ff _).symm, hs.drew, (fun h => by cases h)⟩ ⟨?_, ?_, ?_, ?_, ?_, ?_, ?_, ?_, trivial⟩ ?_
     all_goals clear hs
     · rintro L f w _ hL ⟨t, d, rfl, hs, q⟩
       replace an := an.mono ((((y.trans m).trans C).trans O).trans d)
       refine ld1I hs an al ty77 rfl ?_
       exact oN ⟨rfl, rfl, t, d, fS rfl rfl, hs, q⟩
     · rintro L f w _ hL ⟨t, d, rfl, hs, q⟩
       replace hs := hs.eqv (k := 2) rfl ((rL_f (show L 7 = false from pF q hL) (rL_n)))
       refine ld1 (k := 2) hs rfl V ty3 rfl ?_
       replace hs := hs.eqv (k := 2) rfl (Eq.symm (a := rL [(7, blk b5 3 [iN Z])] (blk b5 3 [iN u]) (setL L 1)) (((rL_f (L := setL L 1) (show L 7 = false from pF q hL) (rL_n)))))
       exact oN ⟨rfl, rfl, t, d, fS rfl rfl, hs, (fun _ => rfl)⟩
     · rintro L f w _ hL ⟨t, d, rfl, hs, q⟩
       replace W := W.mono ((((y.trans m).trans C).trans O).trans d)
       refine ow_loadI (vs := (cL0 A z E x.length D)) (v := .agg (cL0 A z E x.length D).toArray) hs W am ty26 rfl rfl rfl ?_
       exact oN ⟨rfl, rfl, t, d, fS rfl rfl, hs, q⟩
     · rintro L f w _ hL ⟨t, d, rfl, hs, q⟩
       refine mI af ?_
       exact oN ⟨rfl, rfl, t, d, fS rfl rfl, hs, q⟩
     · rintro L f w _ hL ⟨t, d, rfl, hs, q⟩
       refine mI ae ?_
       exact oN ⟨rfl, rfl, t, d, fS rfl rfl, hs, q⟩
     · rintro L f w ⟨aj, ai, ah, _⟩ hL ⟨t, d, rfl, hs, q⟩
       replace M := M.mono ((((y.trans m).trans C).trans O).trans d)
       refine oC (fi := []) (vs := [.agg (cL0 A z E x.length D).toArray, iN (w64 (T + (w64 (l * (w64 (((pXY c j).1) - (w64 (Int.tdiv c 2)))))))), iN (w64 (R + (w64 (l * (w64 (((pXY c j).2) - (w64 (Int.tdiv e 2))))))))]) (ca := []) rfl ⟨(fG rfl aj), (fG rfl ai), (fG rfl ah), trivial⟩ en91 (f91_ok _ _ _ _ _ aV hs M) ?_
       clear hs; rintro _ w ⟨bd, aH, hs, rfl⟩
       exact oN ⟨rfl, rfl, bd, (d.trans aH), fS rfl rfl, hs, q⟩
     · rintro L f w ⟨ak, ab, ag, _, _⟩ hL ⟨t, d, rfl, hs, q⟩
       refine oC (fi := []) (vs := [iN u, iN ar]) (ca := []) (fG rfl ak) ⟨(fG rfl ab), (fG rfl ag), trivial⟩ en83 (f83_ok _ _ aU hs) ?_
       clear hs; rintro _ w ⟨bc, aG, hs, rfl⟩
       exact oN ⟨rfl, rfl, bc, (d.trans aG), fS rfl rfl, hs, q⟩
     · rintro L f w ⟨ao, _, ak, ab, aj, ai, ah, ag, _, _⟩ hL ⟨t, d, rfl, hs, q⟩
       replace hs := hs.eqv (k := 2) rfl ((rL_f hL (rL_n)))
       refine oS (k := 2) (vs := [iN Z]) (cs' := [iN Z]) hs rfl V (fG rfl ao) ty3 rfl rfl (nLe rfl) rfl rfl ?_
       clear hs; intro w hs
       exact oN ⟨rfl, rfl, t, d, frL_no rfl, hs, (fun _ => ab)⟩
     rintro L f w hall ⟨ba, aF, rfl, hs, _⟩
     rw [frL_tt _ rfl hall]
     replace hs := hs.eqv (k := 2) rfl (rL_t (hall 7 (nLe rfl)))
     refine blockK_n ?_
     obtain rfl := oJ hm
     refine ⟨rfl, ba, 0, _, hs, rfl, ?_⟩
     clear hs; intro w hs
     exact ⟨rfl, Z, ba, (((m.trans C).trans O).trans aF), (by rw [show (pN c e) - (j + 1) = (pN c e) - 1 - j by omega]; exact hit2), hs⟩
   rw [if_neg ad] at hm
   refine cIf htbb77 (bF ad) <| cw_skip <| blockK_n ?_
   obtain rfl := oJ hm
   refine ⟨rfl, ac, 0, _, hs, rfl, ?_⟩
   clear hs; intro w hs
   exact ⟨rfl, u, ac, ((m.trans C).trans O), (by rw [show (pN c e) - (j + 1) = (pN c e) - 1 - j by omega]; exact hit2), hs⟩
 clear hm hs
 rintro _ w ⟨u, U, m, hit, hs⟩
 rw [Nat.sub_self] at hit
 obtain rfl := oJ hit
 refine ⟨U, _, hs, ?_⟩
 clear hs; intro w hs
 replace hm := aX
 refine blockK_n <| sQR <| cR <| ld1 (k := 1) hs rfl rfl ty3 rfl <| asI rfl <| oN <| sK <| cw_ret <| ret_mark (k := 0) hs rfl ?_
 clear hs; intro w hs
 refine ret_okM (rs := [.tmp 9]) (vs := [iN u]) (.inr rfl) rfl ⟨rfl, trivial⟩ ?_
 obtain rfl := oJ hm
 replace hs := hs.erase 0
 replace hs := hs.erase 0
 replace hs := hs.erase 0
 exact ⟨U, (y.trans m), hs, rfl⟩
def f87b_s0 (D : Int) (O : Int) (N : Int) (M : Int) (C : List Bool) (K : Int) (H : Int) (G : Int) (B : List Int) (e : List Int) (xe : Int × Int) : Option (List Int) :=
  ((f119_m (xe.1) (xe.2) O N M C K H G B).bind fun au => ((f122_m au).bind fun E => (if e.length + [E].length ≤ 1099511627776 then some (e ++ [E]) else none)))
def f87b_m (D : Int) (Q : Int) (O : Int) (N : Int) (M : Int) (C : List Bool) (K : Int) (H : Int) (G : Int) (B : List Int) : Option (Int × Int × List Int) :=
  (if 0 ≤ (0 : Int) ∧ (0 : Int) ≤ (w64 (D * Q)) ∧ (w64 (D * Q)) ≤ 1099511627776 then (if (0 ≤ D ∧ D ≤ 1000000) ∧ 0 ≤ Q ∧ Q ≤ 1000000 then ((itFrom (S := List Int) (fun j s => f87b_s0 D O N M C K H G B s (pXY D j)) 0 (pN D Q) (List.replicate (0 : Int).toNat (0 : Int))).bind fun e => some (D, Q, e)) else none) else none)
theorem f87b_ok (D : Int) (Q : Int) (O : Int) (N : Int) (M : Int) (C : List Bool) (K : Int) (H : Int) (G : Int) (B : List Int) {r : Int × Int × List Int} (hm : f87b_m D Q O N M C K H G B = some r) {Z : Nat} {W : Nat} {an : Option Addr} {al : Nat} {V : Nat} {U : Nat} {am : Option Addr} {ak : Nat} {T : Nat} {I : Im} {F : List HP} {w : World} (hs : Sat I (F) w) (aj : Ib I Z 3 [iN O]) (ac : Rs I 1 an C.length al (C.flatMap eB)) (ai : Ib I W 40 (cL0 N M an C.length al)) (ah : Ib I V 3 [iN K]) (ab : Rs I 1 am B.length ak (B.flatMap e64)) (ag : Ib I U 26 (cL0 H G am B.length ak)) (af : Ib I T 77 [.func (.func 83) #[] #[]]) :
    CV P 87 [iN D, iN Q, .func (.func 119) #[] #[pQ Z 0, pQ W 0, pQ V 0, pQ U 0, pQ T 0]] w fun v w' => ∃ (J : Im) (a2 : Option Addr) (c2 : Nat), Im.le I J ∧ Sat J (osl 3 1 a2 r.2.2.length c2 (r.2.2.flatMap e64) :: F) w' ∧ v = .agg (rL2 r a2 c2).toArray := by
 unfold f87b_m at hm
 refine cv_ofM (n := 33) Proofs.Tryz.func87 rfl rfl (nLe rfl) <| cQ <| cR <| oB (v := .func (.func 119) #[] #[pQ Z 0, pQ W 0, pQ V 0, pQ U 0, pQ T 0]) (cs := [.func (.func 119) #[] #[pQ Z 0, pQ W 0, pQ V 0, pQ U 0, pQ T 0]]) hs rfl rfl ?_
 clear hs; intro b1 w hs
 refine ow_alloc hs ty26 rfl ?_
 clear hs; intro b3 w hs
 refine oN <| sQR <| cR <| mI rfl <| mI rfl <| mI rfl <| mI rfl <| oV (x_mul rfl rfl) rfl ?_
 have az := (iS hm).1
 replace hm := (iS hm).2
 refine ow_makeT (enc := e64) (z := (0 : Int)) (i := (0 : Int)) (j := (w64 (D * Q))) hs sl24 ty3 el3 rfl rfl rfl rfl az.1 az.2.1 az.2.2 (by decide) ?_
 clear hs; intro a6 w hs
 refine oU (vp := [(0, iN D), (1, iN Q), (2, .slice a6 ((List.replicate (0 : Int).toNat (0 : Int)).length) ((w64 (D * Q)).toNat))]) (cs := (cL0 D Q a6 ((List.replicate (0 : Int).toNat (0 : Int)).length) ((w64 (D * Q)).toNat))) st26 ty26 ⟨rfl, rfl, rfl, rfl, rfl, rfl, trivial⟩ rfl <| ow_alloc hs ty26 rfl ?_
 clear hs; intro b8 w hs
 refine oS (k := 0) (vs := (cL0 D Q a6 ((List.replicate (0 : Int).toNat (0 : Int)).length) ((w64 (D * Q)).toNat))) (cs' := (cL0 D Q a6 ((List.replicate (0 : Int).toNat (0 : Int)).length) ((w64 (D * Q)).toNat))) hs rfl rfl rfl ty26 rfl rfl (nLe rfl) rfl rfl ?_
 clear hs; intro w hs
 refine oN <| sQR <| cQ <| cR <| mI rfl <| mI rfl <| oC (fi := []) (vs := [iN D, iN Q]) (ca := []) rfl ⟨rfl, rfl, trivial⟩ en120 (f120_ok hs) ?_
 clear hs; rintro _ w ⟨aT, a7, a5, R, hs, rfl, aP, aO⟩
 refine oN <| sK <| cw_block ?_
 have aN := (iS hm).1
 replace hm := (iS hm).2
 obtain ⟨aH, aL, aK⟩ := bS hm
 replace hm := aL; clear aL
 refine cw_range hs rfl en146 ?_
 clear hs; intro a4 aV fnD59 aR w aA hs
 refine CV.mono (f146_it D Q aN (Inv := fun j w => ∃ (e : List Int) (q : Option Addr) (p : Nat) (ae : Im), Im.le aT ae ∧ itFrom (fun j s => f87b_s0 D O N M C K H G B s (pXY D j)) j ((pN D Q) - j) e = some aH ∧ Sat ae (aR :: HL.ob aV (.deferred (some [])) :: blk b8 26 (cL0 D Q q e.length p) :: osl 3 1 q e.length p (e.flatMap e64) :: blk b3 26 (cL0 0 0 none 0 0) :: blk b1 77 [.func (.func 119) #[] #[pQ Z 0, pQ W 0, pQ V 0, pQ U 0, pQ T 0]] :: F) w) ?_ ?_ ⟨List.replicate (0 : Int).toNat (0 : Int), a6, (w64 (D * Q)).toNat, aT, iR, hm, hs⟩) ?_
 · rintro j w ⟨e, q, p, ae, y, hit, hs⟩
   exact ⟨_, _, hs, aP.mono y, aO.mono y⟩
 · clear hm hs
   rintro j hj w ⟨e, q, p, ae, y, hit, hs⟩
   obtain ⟨sn, hm, hit2⟩ := it_succ (k := (pN D Q) - 1 - j) (by omega) hit
   clear hit
   unfold f87b_s0 at hm
   refine yc_of (k := 0) hs aA rfl rfl <| cQ <| cR <| asI rfl <| oN <| sK <| cR <| asI rfl <| oN ?_
   refine ⟨rfl, ae, 0, _, hs, rfl, ?_⟩
   clear hs; intro BB64 w hs
   refine cw_block ?_
   obtain ⟨au, aJ, hm⟩ := bS hm
   obtain ⟨E, aI, hm⟩ := bS hm
   have aM := (iS hm).1
   replace hm := (iS hm).2
   refine cD mixed rfl (fun f0 L f w => ∃ (A : Option Addr) (x : Option Addr) (u : Nat) (Iq : Im), Im.le ae Iq ∧ f = frL [(22, 0, pQ b8 2), (23, 1, .slice q e.length p), (24, 2, .func (.func 119) #[] #[pQ Z 0, pQ W 0, pQ V 0, pQ U 0, pQ T 0]), (25, 3, iN ((pXY D j).1)), (26, 4, iN ((pXY D j).2)), (27, 5, iN au), (28, 6, iN E), (29, 7, .slice A ([E].length) 1), (30, 8, .slice x ((e ++ [E]).length) u), (31, 9, pQ b8 2)] L f0 ∧ Sat Iq (BB64 :: HL.ob aV (.deferred (some [])) :: rL [(10, blk b8 26 (cL0 D Q x ((e ++ [E]).length) u))] (blk b8 26 (cL0 D Q q e.length p)) L :: rL [(8, osl 3 1 x (e ++ [E]).length u ((e ++ [E]).flatMap e64))] (osl 3 1 q e.length p (e.flatMap e64)) L :: blk b3 26 (cL0 0 0 none 0 0) :: blk b1 77 [.func (.func 119) #[] #[pQ Z 0, pQ W 0, pQ V 0, pQ U 0, pQ T 0]] :: F) w ∧ (L 7 = true → Rs Iq 1 A [E].length 1 ([E].flatMap e64)) ∧ (L 10 = true → L 1 = true) ∧ (L 10 = true → L 8 = true)) ⟨none, none, 0, ae, iR, (frL_ff _).symm, hs.drew, (fun h => by cases h), (fun h => by cases h), (fun h => by cases h)⟩ ⟨?_, ?_, ?_, ?_, ?_, ?_, ?_, ?_, ?_, ?_, ?_, trivial⟩ ?_
   all_goals clear hs
   · rintro L f w _ hL ⟨A, x, u, Iq, t, rfl, hs, l, d, c⟩
     refine oF (b := b8) (o := 0) fl26_2 rfl ?_
     exact oN ⟨rfl, rfl, A, x, u, Iq, t, fS rfl rfl, hs, (fun h => l h), d, c⟩
   · rintro L f w ⟨aG, _⟩ hL ⟨A, x, u, Iq, t, rfl, hs, l, d, c⟩
     replace hs := hs.eqv (k := 2) rfl ((rL_f (show L 10 = false from pF d hL) (rL_n)))
     refine ld1 (k := 2) hs rfl (fG rfl aG) ty24 rfl ?_
     replace hs := hs.eqv (k := 2) rfl (Eq.symm (a := rL [(10, blk b8 26 (cL0 D Q x ((e ++ [E]).length) u))] (blk b8 26 (cL0 D Q q e.length p)) (setL L 1)) (((rL_f (L := setL L 1) (show L 10 = false from pF d hL) (rL_n)))))
     exact oN ⟨rfl, rfl, A, x, u, Iq, t, fS rfl rfl, hs, (fun h => l h), (fun _ => rfl), c⟩
   · rintro L f w _ hL ⟨A, x, u, Iq, t, rfl, hs, l, d, c⟩
     refine ld1 (k := 5) hs rfl rfl ty77 rfl ?_
     exact oN ⟨rfl, rfl, A, x, u, Iq, t, fS rfl rfl, hs, (fun h => l h), d, c⟩
   · rintro L f w _ hL ⟨A, x, u, Iq, t, rfl, hs, l, d, c⟩
     refine mI rfl ?_
     exact oN ⟨rfl, rfl, A, x, u, Iq, t, fS rfl rfl, hs, (fun h => l h), d, c⟩
   · rintro L f w _ hL ⟨A, x, u, Iq, t, rfl, hs, l, d, c⟩
     refine mI rfl ?_
     exact oN ⟨rfl, rfl, A, x, u, Iq, t, fS rfl rfl, hs, (fun h => l h), d, c⟩
   · rintro L f w ⟨aF, aE, aD, _⟩ hL ⟨A, x, u, Iq, t, rfl, hs, l, d, c⟩
     replace aj := aj.mono ((R.trans y).trans t); replace ac := ac.mono ((R.trans y).trans t); replace ai := ai.mono ((R.trans y).trans t); replace ah := ah.mono ((R.trans y).trans t); replace ab := ab.mono ((R.trans y).trans t); replace ag := ag.mono ((R.trans y).trans t); replace af := af.mono ((R.trans y).trans t)
     refine oC (fi := []) (vs := [iN ((pXY D j).1), iN ((pXY D j).2)]) (ca := [pQ Z 0, pQ W 0, pQ V 0, pQ U 0, pQ T 0]) (fG rfl aF) ⟨(fG rfl aE), (fG rfl aD), trivial⟩ en119 (f119_ok _ _ _ _ _ _ _ _ _ _ aJ hs aj ac ai ah ab ag af) ?_
     clear hs; rintro _ w ⟨aY, aq, hs, rfl⟩
     exact oN ⟨rfl, rfl, A, x, u, aY, (t.trans aq), fS rfl rfl, hs, (fun h => (l h).mono aq), d, c⟩
   · rintro L f w ⟨aC, _, _⟩ hL ⟨A, x, u, Iq, t, rfl, hs, l, d, c⟩
     refine oC (fi := []) (vs := [iN au]) (ca := []) rfl ⟨(fG rfl aC), trivial⟩ en122 (f122_ok _ aI hs) ?_
     clear hs; rintro _ w ⟨aX, ap, hs, rfl⟩
     exact oN ⟨rfl, rfl, A, x, u, aX, (t.trans ap), fS rfl rfl, hs, (fun h => (l h).mono ap), d, c⟩
   · rintro L f w ⟨av, _⟩ hL ⟨A, x, u, Iq, t, rfl, hs, l, d, c⟩
     refine ow_buildSlice (vp := [(0, iN E)]) (cs := [iN E]) hs sl24 ty3 rfl ⟨rfl, (fG rfl av), trivial⟩ (by decide) rfl (by decide) ?_
     clear hs; intro A aS w ay hs aa
     replace aa : Rs aS 1 A [E].length 1 ([E].flatMap e64) := aa
     exact oN ⟨rfl, rfl, A, x, u, aS, (t.trans ay), (Eq.trans (fSG (i := 7) rfl rfl) (rfl)), hs, (fun _ => aa), d, c⟩
   · rintro L f w ⟨aw, ao, av, _⟩ hL ⟨A, x, u, Iq, t, rfl, hs, l, d, c⟩
     have aa := l ao
     replace hs := hs.eqv (k := 3) rfl ((rL_f hL (rL_n)))
     replace hs := hs.eqv (k := 2) rfl ((rL_f (show L 10 = false from pF c hL) (rfl)))
     refine ow_appendT (k := 3) (enc := e64) (X := e) (Y := [E]) hs rfl sl24 ty3 el3 rfl (fG rfl aw) (fG rfl ao) aa (fun _ => rfl) aM (by decide) ?_
     clear hs; intro x u w hs
     replace hs := hs.eqv (k := 2) rfl (Eq.symm (a := rL [(10, blk b8 26 (cL0 D Q x ((e ++ [E]).length) u))] (blk b8 26 (cL0 D Q q e.length p)) (setL L 8)) (((rL_f (L := setL L 8) (show L 10 = false from pF c hL) (rfl)))))
     exact oN ⟨rfl, rfl, A, x, u, Iq, t, (Eq.trans (fSG (i := 8) rfl rfl) (rfl)), hs, (fun h => l h), d, (fun _ => rfl)⟩
   · rintro L f w ⟨aG, aw, aF, aE, aD, aC, av, ao, aB, _⟩ hL ⟨A, x, u, Iq, t, rfl, hs, l, d, c⟩
     have aa := l ao
     refine oF (b := b8) (o := 0) fl26_2 rfl ?_
     exact oN ⟨rfl, rfl, A, x, u, Iq, t, fS rfl rfl, hs, (fun h => l h), d, c⟩
   · rintro L f w ⟨aW, aB, _, aG, aw, aF, aE, aD, aC, av, ao, _, _⟩ hL ⟨A, x, u, Iq, t, rfl, hs, l, d, c⟩
     have aa := l ao
     replace hs := hs.eqv (k := 2) rfl ((rL_f hL (rL_n)))
     refine oS (k := 2) (vs := [.slice x ((e ++ [E]).length) u]) (cs' := (cL0 D Q x ((e ++ [E]).length) u)) hs rfl (fG rfl aW) (fG rfl aB) ty24 rfl rfl (nLe rfl) rfl rfl ?_
     clear hs; intro w hs
     exact oN ⟨rfl, rfl, A, x, u, Iq, t, frL_no rfl, hs, (fun h => l h), (fun _ => aw), (fun _ => aB)⟩
   rintro L f w hall ⟨A, x, u, aU, ax, rfl, hs, aa, _, _⟩
   rw [frL_tt _ rfl hall]
   replace hs := hs.eqv (k := 2) rfl (rL_t (hall 10 (nLe rfl)))
   replace hs := hs.eqv (k := 3) rfl (rL_t (hall 8 (nLe rfl)))
   replace aa := aa (hall 7 (nLe rfl))
   refine blockK_n ?_
   obtain rfl := oJ hm
   refine ⟨rfl, aU, 0, _, hs, rfl, ?_⟩
   clear hs; intro w hs
   exact ⟨rfl, e ++ [E], x, u, aU, (y.trans ax), (by rw [show (pN D Q) - (j + 1) = (pN D Q) - 1 - j by omega]; exact hit2), hs⟩
 clear hm hs
 rintro _ w ⟨e, q, p, ae, y, hit, hs⟩
 rw [Nat.sub_self] at hit
 obtain rfl := oJ hit
 refine ⟨ae, _, hs, ?_⟩
 clear hs; intro w hs
 replace hm := aK
 refine blockK_n <| sQR <| cR <| oL (k := 1) (vs := (cL0 D Q q e.length p)) (v := .agg (cL0 D Q q e.length p).toArray) hs rfl rfl ty26 rfl rfl rfl <| oS (k := 3) (vs := (cL0 D Q q e.length p)) (cs' := (cL0 D Q q e.length p)) hs rfl rfl rfl ty26 rfl rfl (nLe rfl) rfl rfl ?_
 clear hs; intro w hs
 refine oN <| sK <| cw_ret <| ret_mark (k := 0) hs rfl ?_
 clear hs; intro w hs
 refine ret_okM (rs := [.cell 6 26]) (vs := [.agg (cL0 D Q q e.length p).toArray]) (.inr rfl) rfl ⟨⟨_, true, _, (cL0 D Q q e.length p), rfl, ty26, CA_blk (off := 0) (m := 3) (hs.blk (k := 2) rfl), rfl, rfl⟩, trivial⟩ ?_
 obtain rfl := oJ hm
 replace hs := hs.erase 0
 replace hs := hs.erase 1
 replace hs := hs.erase 1
 exact ⟨ae, q, p, (R.trans y), hs, rfl⟩
def f82_m (e : Int) (d : Int) (c : List Int) (t : Int) (s : Int) (a : List Bool) (x2 : Int) (x3 : Int) : Option (Int × Int × List Int × Int) :=
  ((f85_m e d c).bind fun ab => (if (!ab) = true then some (0, 0, ([] : List Int), 20) else ((f117_m t s (a.length : Int)).bind fun aa => ((if (!aa) = true then some true else ((f118_m a true).bind fun Z => some (!Z))).bind fun ac => (if ac = true then some (0, 0, ([] : List Int), 22) else ((f87b_m e d x3 t s a x2 e d c).bind fun M => some (M.1, M.2.1, M.2.2, 0)))))))
theorem f82_ok (e : Int) (d : Int) (c : List Int) (t : Int) (s : Int) (a : List Bool) (x2 : Int) (x3 : Int) {r : Int × Int × List Int × Int} (hm : f82_m e d c t s a x2 x3 = some r) {j : Option Addr} {i : Nat} {C : Option Addr} {B : Nat} {I : Im} {F : List HP} {w : World} (hs : Sat I (F) w) (H : Rs I 1 j c.length i (c.flatMap e64)) (y : Rs I 1 C a.length B (a.flatMap eB)) :
    CV P 82 [.agg (cL0 e d j c.length i).toArray, .agg (cL0 t s C a.length B).toArray, iN x2, iN x3, .func (.func 83) #[] #[]] w fun v w' => ∃ (J : Im) (a2 : Option Addr) (c2 : Nat), Im.le I J ∧ Sat J (F) w' ∧ v = .tuple #[.agg (cL0 r.1 r.2.1 a2 r.2.2.1.length c2).toArray, iN r.2.2.2] ∧ Rs J 1 a2 r.2.2.1.length c2 (r.2.2.1.flatMap e64) := by
 unfold f82_m at hm
 refine cv_of (n := 38) Proofs.Tryz.func82 rfl rfl (nLe rfl) <| cQ <| cR <| oB (v := .agg (cL0 e d j c.length i).toArray) (cs := (cL0 e d j c.length i)) hs rfl rfl ?_
 clear hs; intro b1 w hs
 refine oB (v := .agg (cL0 t s C a.length B).toArray) (cs := (cL0 t s C a.length B)) hs rfl rfl ?_
 clear hs; intro b3 w hs
 refine oB (v := iN x2) (cs := [iN x2]) hs rfl rfl ?_
 clear hs; intro b5 w hs
 refine oB (v := iN x3) (cs := [iN x3]) hs rfl rfl ?_
 clear hs; intro b7 w hs
 refine oB (v := .func (.func 83) #[] #[]) (cs := [.func (.func 83) #[] #[]]) hs rfl rfl ?_
 clear hs; intro b9 w hs
 refine ow_alloc hs ty26 rfl ?_
 clear hs; intro au w hs
 refine asI rfl <| oN <| sQR <| cQ <| cR <| oL (k := 5) (vs := (cL0 e d j c.length i)) (v := .agg (cL0 e d j c.length i).toArray) hs rfl rfl ty26 rfl rfl rfl ?_
 obtain ⟨ab, ap, hm⟩ := bS hm
 refine oC (fi := []) (vs := [.agg (cL0 e d j c.length i).toArray]) (ca := []) rfl ⟨rfl, trivial⟩ en85 (f85_ok _ _ _ ap hs H) ?_
 clear hs; rintro _ w ⟨aB, A, hs, rfl⟩
 refine oV (x_not (b := ab) rfl) rfl <| oN <| sK ?_
 by_cases Q : (!ab) = true
 · rw [if_pos Q] at hm
   refine cIt rfl Q <| cQ <| cR <| oU (vp := []) (cs := (cL0 0 0 none 0 0)) st26 ty26 trivial rfl <| oS (k := 0) (vs := (cL0 0 0 none 0 0)) (cs' := (cL0 0 0 none 0 0)) hs rfl rfl rfl ty26 rfl rfl (nLe rfl) rfl rfl ?_
   clear hs; intro w hs
   refine asI rfl <| oN <| sK <| cw_ret <| seqK_r <| rK (rs := [.cell 10 26, .tmp 11]) (vs := [.agg (cL0 0 0 none 0 0).toArray, iN 20]) (.inr rfl) rfl ⟨⟨_, true, _, (cL0 0 0 none 0 0), rfl, ty26, CA_blk (off := 0) (m := 3) (hs.blk (k := 0) rfl), rfl, rfl⟩, rfl, trivial⟩ ?_
   obtain rfl := oJ hm
   replace hs := hs.erase 0
   replace hs := hs.erase 0
   replace hs := hs.erase 0
   replace hs := hs.erase 0
   replace hs := hs.erase 0
   replace hs := hs.erase 0
   exact ⟨aB, none, 0, A, hs, rfl, (Rs.nil _ _ _)⟩
 rw [if_neg Q] at hm
 refine cIf rfl (bF Q) <| cw_skip <| sQR <| cQ <| cR <| oF (b := b3) (o := 0) fl40_0 rfl <| ld1 (k := 4) hs rfl rfl ty3 rfl <| oF (b := b3) (o := 0) fl40_1 rfl <| ld1 (k := 4) hs rfl rfl ty3 rfl <| oF (b := b3) (o := 0) fl40_2 rfl <| ld1 (k := 4) hs rfl rfl ty38 rfl ?_
 refine oV (x_len sl38 rfl) rfl ?_
 obtain ⟨aa, ao, hm⟩ := bS hm
 refine oC (fi := []) (vs := (cL1 t s (a.length : Int))) (ca := []) rfl ⟨rfl, rfl, rfl, trivial⟩ en117 (f117_ok _ _ _ ao hs) ?_
 clear hs; rintro _ w ⟨av, G, hs, rfl⟩
 refine oV (x_not (b := aa) rfl) rfl <| mB rfl ?_
 obtain ⟨ac, p, hm⟩ := bS hm
 refine oJN 5 (fun f ds w => ∃ (ad : Im), ds = [] ∧ Im.le av ad ∧ Sat ad (blk au 26 (cL0 0 0 none 0 0) :: blk b9 77 [.func (.func 83) #[] #[]] :: blk b7 3 [iN x3] :: blk b5 3 [iN x2] :: blk b3 40 (cL0 t s C a.length B) :: blk b1 26 (cL0 e d j c.length i) :: F) w ∧ f 30 = .bool ac ∧ f 5 = pQ b1 0 ∧ f 6 = pQ b3 0 ∧ f 7 = pQ b5 0 ∧ f 8 = pQ b7 0 ∧ f 9 = pQ b9 0 ∧ f 10 = pQ au 0 ∧ f 11 = iN 0) ?_ ?_
 · by_cases h : (!aa) = true
   · rw [if_pos h] at p
     refine oO (b := true) (yO rfl rfl h) rfl <| oO (b := true) (yO rfl rfl h) rfl <| oO (b := true) (yO rfl rfl h) rfl <| oO (b := true) (yO rfl rfl h) rfl <| oV (xPt (v := .bool true) ((rfl : ev _ _ _ = _).trans (congrArg Value.bool h)) rfl) rfl <| oN ?_
     obtain rfl := oJ p
     exact ⟨av, rfl, iR, hs, rfl, rfl, rfl, rfl, rfl, rfl, rfl, rfl⟩
   rw [if_neg h] at p
   refine oG (yO rfl rfl (bF h)) <| oF (b := b3) (o := 0) fl40_2 rfl <| oG (yO rfl rfl (bF h)) <| ld1 (k := 4) hs rfl rfl ty38 rfl <| oG (yO rfl rfl (bF h)) ?_
   obtain ⟨Z, an, p⟩ := bS p
   replace y := y.mono (A.trans G)
   refine oC (fi := []) (vs := [.slice C a.length B, .bool true]) (ca := []) rfl ⟨rfl, rfl, trivial⟩ en118 (f118_ok _ _ an hs y) ?_
   clear hs; rintro _ w ⟨aA, aj, hs, rfl⟩
   refine oG (yO rfl rfl (bF h)) <| oV (x_not (b := Z) rfl) rfl <| oV (xPf (v := .bool (!Z)) ((rfl : ev _ _ _ = _).trans (congrArg Value.bool (bF h))) rfl) rfl <| oN ?_
   obtain rfl := oJ p
   exact ⟨aA, rfl, aj, hs, rfl, rfl, rfl, rfl, rfl, rfl, rfl, rfl⟩
 clear p hs
 rintro f ds w ⟨ad, rfl, L, hs, htbb24, D, U, T, S, R, l, ak⟩
 refine oN <| sK ?_
 by_cases O : ac = true
 · rw [if_pos O] at hm
   refine cIt htbb24 O <| cQ <| cR <| oU (vp := []) (cs := (cL0 0 0 none 0 0)) st26 ty26 trivial rfl <| oS (k := 0) (vs := (cL0 0 0 none 0 0)) (cs' := (cL0 0 0 none 0 0)) hs rfl l rfl ty26 rfl rfl (nLe rfl) rfl rfl ?_
   clear hs; intro w hs
   refine asI rfl <| oN <| sK <| cw_ret <| seqK_r <| rK (rs := [.cell 10 26, .tmp 11]) (vs := [.agg (cL0 0 0 none 0 0).toArray, iN 22]) (.inr rfl) rfl ⟨⟨_, true, _, (cL0 0 0 none 0 0), l, ty26, CA_blk (off := 0) (m := 3) (hs.blk (k := 0) rfl), rfl, rfl⟩, rfl, trivial⟩ ?_
   obtain rfl := oJ hm
   replace hs := hs.erase 0
   replace hs := hs.erase 0
   replace hs := hs.erase 0
   replace hs := hs.erase 0
   replace hs := hs.erase 0
   replace hs := hs.erase 0
   exact ⟨ad, none, 0, ((A.trans G).trans L), hs, rfl, (Rs.nil _ _ _)⟩
 rw [if_neg O] at hm
 refine cIf htbb24 (bF O) <| cw_skip <| sQR <| cR <| oF (b := b1) (o := 0) fl26_0 D <| ld1 (k := 5) hs rfl rfl ty3 rfl <| oF (b := b1) (o := 0) fl26_1 D <| ld1 (k := 5) hs rfl rfl ty3 rfl ?_
 replace hs := hs.front (k := 2) rfl
 obtain ⟨aJ, N, Y, hs⟩ := hs.freezeB
 replace hs := hs.front (k := 3) rfl
 obtain ⟨aI, K, X, hs⟩ := hs.freezeB
 replace hs := hs.front (k := 2) rfl
 obtain ⟨aH, E, W, hs⟩ := hs.freezeB
 replace hs := hs.front (k := 2) rfl
 obtain ⟨aG, z, V, hs⟩ := hs.freezeB
 replace hs := hs.front (k := 1) rfl
 obtain ⟨aF, q, ar, hs⟩ := hs.freezeB
 refine oV (x_funcL (vf := []) (vc := [pQ b7 0, pQ b3 0, pQ b5 0, pQ b1 0, pQ b9 0]) trivial ⟨S, U, T, D, R, trivial⟩) rfl ?_
 obtain ⟨M, am, hm⟩ := bS hm
 replace H := H.mono (((((((A.trans G).trans L).trans N).trans K).trans E).trans z).trans q); replace y := y.mono (((((((A.trans G).trans L).trans N).trans K).trans E).trans z).trans q); replace Y := Y.mono (((K.trans E).trans z).trans q); replace X := X.mono ((E.trans z).trans q); replace W := W.mono (z.trans q); replace V := V.mono q
 refine oC (fi := []) (vs := [iN e, iN d, .func (.func 119) #[] #[pQ b7 0, pQ b3 0, pQ b5 0, pQ b1 0, pQ b9 0]]) (ca := []) rfl ⟨rfl, rfl, rfl, trivial⟩ en87 (f87b_ok _ _ _ _ _ _ _ _ _ _ am hs Y y X W H V ar) ?_
 clear hs; rintro _ w ⟨aE, x, u, ai, hs, rfl⟩
 refine oS (k := 1) (vs := (rL2 M x u)) (cs' := (rL2 M x u)) hs rfl l rfl ty26 rfl rfl (nLe rfl) rfl rfl ?_
 clear hs; intro w hs
 refine asI rfl <| oN <| sK <| cw_ret <| rK (rs := [.cell 10 26, .tmp 11]) (vs := [.agg (rL2 M x u).toArray, iN 0]) (.inr rfl) rfl ⟨⟨_, true, _, (rL2 M x u), l, ty26, CA_blk (off := 0) (m := 3) (hs.blk (k := 1) rfl), rfl, rfl⟩, rfl, trivial⟩ ?_
 obtain rfl := oJ hm
 obtain ⟨az, ah, aq, hs⟩ := hs.freezeO
 replace hs := hs.erase 0
 exact ⟨az, x, u, (((((((((A.trans G).trans L).trans N).trans K).trans E).trans z).trans q).trans ai).trans ah), hs, rfl, aq⟩
def f47_m (p : Int) (o : Int) (b : List Int) (l : Int) (j : Int) (a : List Bool) : Option (Int × Int × List Int × Int) :=
  ((f82_m p o b l j a 1 2147483648).bind fun q => some (q.1, q.2.1, q.2.2.1, q.2.2.2))
theorem f47_ok (p : Int) (o : Int) (b : List Int) (l : Int) (j : Int) (a : List Bool) {r : Int × Int × List Int × Int} (hm : f47_m p o b l j a = some r) {i : Option Addr} {f : Nat} {h : Option Addr} {e : Nat} {I : Im} {F : List HP} {w : World} (hs : Sat I (F) w) (t : Rs I 1 i b.length f (b.flatMap e64)) (s : Rs I 1 h a.length e (a.flatMap eB)) :
    CV P 47 [.agg (cL0 p o i b.length f).toArray, .agg (cL0 l j h a.length e).toArray] w fun v w' => ∃ (J : Im) (z : Option Addr) (y : Nat), Im.le I J ∧ Sat J (F) w' ∧ v = .tuple #[.agg (cL0 r.1 r.2.1 z r.2.2.1.length y).toArray, iN r.2.2.2] ∧ Rs J 1 z r.2.2.1.length y (r.2.2.1.flatMap e64) := by
 unfold f47_m at hm
 refine cv_of (n := 11) Proofs.Tryz.func47 rfl rfl (nLe rfl) <| cQ <| cR <| oB (v := .agg (cL0 p o i b.length f).toArray) (cs := (cL0 p o i b.length f)) hs rfl rfl ?_
 clear hs; intro D w hs
 refine oB (v := .agg (cL0 l j h a.length e).toArray) (cs := (cL0 l j h a.length e)) hs rfl rfl ?_
 clear hs; intro C w hs
 refine ow_alloc hs ty26 rfl ?_
 clear hs; intro B w hs
 refine asI rfl <| oN <| sQR <| cR <| oL (k := 2) (vs := (cL0 p o i b.length f)) (v := .agg (cL0 p o i b.length f).toArray) hs rfl rfl ty26 rfl rfl rfl <| oL (k := 1) (vs := (cL0 l j h a.length e)) (v := .agg (cL0 l j h a.length e).toArray) hs rfl rfl ty40 rfl rfl rfl ?_
 obtain ⟨q, x, hm⟩ := bS hm
 refine oC (fi := []) (vs := [.agg (cL0 p o i b.length f).toArray, .agg (cL0 l j h a.length e).toArray, iN 1, iN 2147483648, .func (.func 83) #[] #[]]) (ca := []) rfl ⟨rfl, rfl, rfl, rfl, rfl, trivial⟩ en82 (f82_ok _ _ _ _ _ _ _ _ x hs t s) ?_
 clear hs; rintro _ w ⟨A, d, c, u, hs, rfl, hRz11_2⟩
 refine oV (xE (v := .agg (cL0 q.1 q.2.1 d q.2.2.1.length c).toArray) rfl rfl) rfl <| oV (xE (v := iN q.2.2.2) rfl rfl) rfl <| oS (k := 0) (vs := (cL0 q.1 q.2.1 d q.2.2.1.length c)) (cs' := (cL0 q.1 q.2.1 d q.2.2.1.length c)) hs rfl rfl rfl ty26 rfl rfl (nLe rfl) rfl rfl ?_
 clear hs; intro w hs
 refine asI rfl <| oN <| sK <| cw_ret <| rK (rs := [.cell 4 26, .tmp 5]) (vs := [.agg (cL0 q.1 q.2.1 d q.2.2.1.length c).toArray, iN q.2.2.2]) (.inr rfl) rfl ⟨⟨_, true, _, (cL0 q.1 q.2.1 d q.2.2.1.length c), rfl, ty26, CA_blk (off := 0) (m := 3) (hs.blk (k := 0) rfl), rfl, rfl⟩, rfl, trivial⟩ ?_
 obtain rfl := oJ hm
 replace hs := hs.erase 0
 replace hs := hs.erase 0
 replace hs := hs.erase 0
 exact ⟨A, d, c, u, hs, rfl, hRz11_2⟩
def f84_m (d : Int) (c : Int) : Option Int :=
  some (max d c)
theorem f84_ok (d : Int) (c : Int) {r : Int} (hm : f84_m d c = some r)  {I : Im} {F : List HP} {w : World} (hs : Sat I (F) w)  :
    CV P 84 [iN d, iN c] w fun v w' => ∃ (J : Im), Im.le I J ∧ Sat J (F) w' ∧ v = iN r := by
 unfold f84_m at hm
 refine cv_of (n := 8) Proofs.Tryz.func84 rfl rfl (nLe rfl) <| cQ <| cR <| asI rfl <| oN <| sQR <| cR <| mI rfl <| mI rfl <| oV (x_max2 (k := .i64) (a := d) (b := c) rfl rfl) rfl <| asI rfl ?_
 refine oN <| sK <| cw_ret <| rK (rs := [.tmp 4]) (vs := [iN (max d c)]) (.inr rfl) rfl ⟨rfl, trivial⟩ ?_
 obtain rfl := oJ hm
 exact ⟨I, iR, hs, rfl⟩
def f119a_s0 (T : Int) (R : Int) (c : Int) (e : Int) (B : List Bool) (l : Int) (A : Int) (z : Int) (x : List Int) (u : Int) (xe : Int × Int) : Option Int :=
  (if 0 ≤ (w64 ((w64 ((xe.2) * c)) + (xe.1))) ∧ (w64 ((w64 ((xe.2) * c)) + (xe.1))) < (B.length : Int) then ((if (at' B (w64 ((w64 ((xe.2) * c)) + (xe.1)))) = true then ((f121_m A z x (w64 (T + (w64 (l * (w64 ((xe.1) - (w64 (Int.tdiv c 2)))))))) (w64 (R + (w64 (l * (w64 ((xe.2) - (w64 (Int.tdiv e 2))))))))).bind fun aE => some aE) else some false).bind fun au => (if au = true then ((f91_m A z x (w64 (T + (w64 (l * (w64 ((xe.1) - (w64 (Int.tdiv c 2)))))))) (w64 (R + (w64 (l * (w64 ((xe.2) - (w64 (Int.tdiv e 2))))))))).bind fun ar => ((f84_m u ar).bind fun Z => some Z)) else some u)) else none)
def f119a_m (T : Int) (R : Int) (N : Int) (c : Int) (e : Int) (B : List Bool) (l : Int) (A : Int) (z : Int) (x : List Int) : Option Int :=
  (if (0 ≤ c ∧ c ≤ 1000000) ∧ 0 ≤ e ∧ e ≤ 1000000 then ((itFrom (S := Int) (fun j s => f119a_s0 T R c e B l A z x s (pXY c j)) 0 (pN c e) N).bind fun u => some u) else none)
theorem f119a_ok (T : Int) (R : Int) (N : Int) (c : Int) (e : Int) (B : List Bool) (l : Int) (A : Int) (z : Int) (x : List Int) {r : Int} (hm : f119a_m T R N c e B l A z x = some r) {a6 : Nat} {Q : Nat} {aq : Option Addr} {ap : Nat} {aN : Nat} {aM : Nat} {E : Option Addr} {D : Nat} {aL : Nat} {I : Im} {F : List HP} {w : World} (hs : Sat I (F) w) (a0 : Ib I a6 3 [iN N]) (Y : Rs I 1 aq B.length ap (B.flatMap eB)) (H : Ib I Q 40 (cL0 c e aq B.length ap)) (X : Ib I aN 3 [iN l]) (M : Rs I 1 E x.length D (x.flatMap e64)) (W : Ib I aM 26 (cL0 A z E x.length D)) (an : Ib I aL 77 [.func (.func 84) #[] #[]]) :
    CV P 119 [iN T, iN R, pQ a6 0, pQ Q 0, pQ aN 0, pQ aM 0, pQ aL 0] w fun v w' => ∃ (J : Im), Im.le I J ∧ Sat J (F) w' ∧ v = iN r := by
 unfold f119a_m at hm
 refine cv_ofM (n := 65) Proofs.Tryz.func119 rfl rfl (nLe rfl) <| cQ <| cR <| oB (v := iN T) (cs := [iN T]) hs rfl rfl ?_
 clear hs; intro b1 w hs
 refine oB (v := iN R) (cs := [iN R]) hs rfl rfl ?_
 clear hs; intro b3 w hs
 refine asI rfl <| oN <| sQR <| cR <| ld1I hs a0 rfl ty3 rfl <| ow_alloc hs ty3 rfl ?_
 clear hs; intro b5 w hs
 refine oS (k := 0) (vs := [iN N]) (cs' := [iN N]) hs rfl rfl rfl ty3 rfl rfl (nLe rfl) rfl rfl ?_
 clear hs; intro w hs
 refine oN <| sQR <| cQ <| cR <| oF (b := Q) (o := 0) fl40_0 rfl <| ld1I hs H rfl ty3 rfl <| oF (b := Q) (o := 0) fl40_1 rfl <| ld1I hs H rfl ty3 rfl <| oC (fi := []) (vs := [iN c, iN e]) (ca := []) rfl ⟨rfl, rfl, trivial⟩ en120 (f120_ok hs) ?_
 clear hs; rintro _ w ⟨J9, b7, b8, y, hs, rfl, a5, a4⟩
 refine oN <| sK <| cw_block ?_
 have aZ := (iS hm).1
 replace hm := (iS hm).2
 obtain ⟨aO, aY, aX⟩ := bS hm
 replace hm := aY; clear aY
 refine cw_range hs rfl en146 ?_
 clear hs; intro bh av fnD68 a9 w aJ hs
 refine CV.mono (f146_it c e aZ (Inv := fun j w => ∃ (u : Int) (U : Im), Im.le J9 U ∧ itFrom (fun j s => f119a_s0 T R c e B l A z x s (pXY c j)) j ((pN c e) - j) u = some aO ∧ Sat U (a9 :: HL.ob av (.deferred (some [])) :: blk b5 3 [iN u] :: blk b3 3 [iN R] :: blk b1 3 [iN T] :: F) w) ?_ ?_ ⟨N, J9, iR, hm, hs⟩) ?_
 · rintro j w ⟨u, U, m, hit, hs⟩
   exact ⟨_, _, hs, a5.mono m, a4.mono m⟩
 · clear hm hs
   rintro j hj w ⟨u, U, m, hit, hs⟩
   obtain ⟨sn, hm, hit2⟩ := it_succ (k := (pN c e) - 1 - j) (by omega) hit
   clear hit
   unfold f119a_s0 at hm
   refine yc_of (k := 0) hs aJ rfl rfl <| cQ <| cR <| asI rfl <| oN <| sK <| cR <| asI rfl <| oN ?_
   refine ⟨rfl, U, 0, _, hs, rfl, ?_⟩
   clear hs; intro BB73 w hs
   refine cw_block <| cQ ?_
   refine cD mixed rfl (fun f0 L f w => ∃ (t : Im), Im.le U t ∧ f = frL [(23, 0, iN T), (24, 1, iN l), (25, 2, iN ((pXY c j).1)), (26, 3, pQ Q 0), (27, 4, iN c), (28, 5, iN (w64 (Int.tdiv c 2))), (29, 6, iN (w64 (((pXY c j).1) - (w64 (Int.tdiv c 2))))), (30, 7, iN (w64 (l * (w64 (((pXY c j).1) - (w64 (Int.tdiv c 2))))))), (31, 8, iN (w64 (T + (w64 (l * (w64 (((pXY c j).1) - (w64 (Int.tdiv c 2))))))))), (32, 9, iN R), (33, 10, iN l), (34, 11, iN ((pXY c j).2)), (35, 12, pQ Q 1), (36, 13, iN e), (37, 14, iN (w64 (Int.tdiv e 2))), (38, 15, iN (w64 (((pXY c j).2) - (w64 (Int.tdiv e 2))))), (39, 16, iN (w64 (l * (w64 (((pXY c j).2) - (w64 (Int.tdiv e 2))))))), (40, 17, iN (w64 (R + (w64 (l * (w64 (((pXY c j).2) - (w64 (Int.tdiv e 2))))))))), (13, 18, iN (w64 (T + (w64 (l * (w64 (((pXY c j).1) - (w64 (Int.tdiv c 2))))))))), (14, 19, iN (w64 (R + (w64 (l * (w64 (((pXY c j).2) - (w64 (Int.tdiv e 2)))))))))] L f0 ∧ Sat t (BB73 :: HL.ob av (.deferred (some [])) :: blk b5 3 [iN u] :: blk b3 3 [iN R] :: blk b1 3 [iN T] :: F) w) ⟨U, iR, (frL_ff _).symm, hs.drew⟩ ⟨?_, ?_, ?_, ?_, ?_, ?_, ?_, ?_, ?_, ?_, ?_, ?_, ?_, ?_, ?_, ?_, ?_, ?_, ?_, ?_, trivial⟩ ?_
   all_goals clear hs
   · rintro L f w _ hL ⟨t, d, rfl, hs⟩
     refine ld1 (k := 4) hs rfl rfl ty3 rfl ?_
     exact oN ⟨rfl, rfl, t, d, fS rfl rfl, hs⟩
   · rintro L f w _ hL ⟨t, d, rfl, hs⟩
     replace X := X.mono ((y.trans m).trans d)
     refine ld1I hs X rfl ty3 rfl ?_
     exact oN ⟨rfl, rfl, t, d, fS rfl rfl, hs⟩
   · rintro L f w _ hL ⟨t, d, rfl, hs⟩
     refine mI rfl ?_
     exact oN ⟨rfl, rfl, t, d, fS rfl rfl, hs⟩
   · rintro L f w _ hL ⟨t, d, rfl, hs⟩
     refine oF (b := Q) (o := 0) fl40_0 rfl ?_
     exact oN ⟨rfl, rfl, t, d, fS rfl rfl, hs⟩
   · rintro L f w ⟨ai, _⟩ hL ⟨t, d, rfl, hs⟩
     replace H := H.mono ((y.trans m).trans d)
     refine ld1I hs H (fG rfl ai) ty3 rfl ?_
     exact oN ⟨rfl, rfl, t, d, fS rfl rfl, hs⟩
   · rintro L f w ⟨ah, _⟩ hL ⟨t, d, rfl, hs⟩
     refine oV (x_quo (fG rfl ah) rfl (by decide)) rfl ?_
     exact oN ⟨rfl, rfl, t, d, fS rfl rfl, hs⟩
   · rintro L f w ⟨aj, ag, _⟩ hL ⟨t, d, rfl, hs⟩
     refine oV (x_sub (fG rfl aj) (fG rfl ag)) rfl ?_
     exact oN ⟨rfl, rfl, t, d, fS rfl rfl, hs⟩
   · rintro L f w ⟨ab, ao, _⟩ hL ⟨t, d, rfl, hs⟩
     refine oV (x_mul (fG rfl ab) (fG rfl ao)) rfl ?_
     exact oN ⟨rfl, rfl, t, d, fS rfl rfl, hs⟩
   · rintro L f w ⟨ak, aK, _⟩ hL ⟨t, d, rfl, hs⟩
     refine oV (x_add (fG rfl ak) (fG rfl aK)) rfl ?_
     exact oN ⟨rfl, rfl, t, d, fS rfl rfl, hs⟩
   · rintro L f w _ hL ⟨t, d, rfl, hs⟩
     refine ld1 (k := 3) hs rfl rfl ty3 rfl ?_
     exact oN ⟨rfl, rfl, t, d, fS rfl rfl, hs⟩
   · rintro L f w _ hL ⟨t, d, rfl, hs⟩
     replace X := X.mono ((y.trans m).trans d)
     refine ld1I hs X rfl ty3 rfl ?_
     exact oN ⟨rfl, rfl, t, d, fS rfl rfl, hs⟩
   · rintro L f w _ hL ⟨t, d, rfl, hs⟩
     refine mI rfl ?_
     exact oN ⟨rfl, rfl, t, d, fS rfl rfl, hs⟩
   · rintro L f w _ hL ⟨t, d, rfl, hs⟩
     refine oF (b := Q) (o := 0) fl40_1 rfl ?_
     exact oN ⟨rfl, rfl, t, d, fS rfl rfl, hs⟩
   · rintro L f w ⟨aA, _⟩ hL ⟨t, d, rfl, hs⟩
     replace H := H.mono ((y.trans m).trans d)
     refine ld1I hs H (fG rfl aA) ty3 rfl ?_
     exact oN ⟨rfl, rfl, t, d, fS rfl rfl, hs⟩
   · rintro L f w ⟨az, _⟩ hL ⟨t, d, rfl, hs⟩
     refine oV (x_quo (fG rfl az) rfl (by decide)) rfl ?_
     exact oN ⟨rfl, rfl, t, d, fS rfl rfl, hs⟩
   · rintro L f w ⟨aB, ay, _⟩ hL ⟨t, d, rfl, hs⟩
     refine oV (x_sub (fG rfl aB) (fG rfl ay)) rfl ?_
     exact oN ⟨rfl, rfl, t, d, fS rfl rfl, hs⟩
   · rintro L f w ⟨aC, ax, _⟩ hL ⟨t, d, rfl, hs⟩
     refine oV (x_mul (fG rfl aC) (fG rfl ax)) rfl ?_
     exact oN ⟨rfl, rfl, t, d, fS rfl rfl, hs⟩
   · rintro L f w ⟨a1, aw, _⟩ hL ⟨t, d, rfl, hs⟩
     refine oV (x_add (fG rfl a1) (fG rfl aw)) rfl ?_
     exact oN ⟨rfl, rfl, t, d, fS rfl rfl, hs⟩
   · rintro L f w ⟨a2, ak, ab, aj, ai, ah, ag, ao, aK, _, _⟩ hL ⟨t, d, rfl, hs⟩
     refine asI (fG rfl a2) ?_
     exact oN ⟨rfl, rfl, t, d, fS rfl rfl, hs⟩
   · rintro L f w ⟨a3, bf, ak, ab, aj, ai, ah, ag, ao, aK, a2, a1, aC, aB, aA, az, ay, ax, aw, _, _, _⟩ hL ⟨t, d, rfl, hs⟩
     refine asI (fG rfl a3) ?_
     exact oN ⟨rfl, rfl, t, d, fS rfl rfl, hs⟩
   rintro L f w hall ⟨bb, C, rfl, hs⟩
   rw [frL_tt _ rfl hall]
   refine sQR <| cR <| oF (b := Q) (o := 0) fl40_2 rfl ?_
   replace H := H.mono ((y.trans m).trans C)
   refine ld1I hs H rfl ty38 rfl <| mI rfl <| oF (b := Q) (o := 0) fl40_0 rfl <| ld1I hs H rfl ty3 rfl <| oV (x_mul rfl rfl) rfl <| mI rfl <| oV (x_add rfl rfl) rfl ?_
   have aa := (iS hm).1
   replace hm := (iS hm).2
   replace Y := Y.mono ((y.trans m).trans C)
   refine oI (i := (w64 ((w64 (((pXY c j).2) * c)) + ((pXY c j).1)))) sl38 ty4 rfl rfl aa.1 aa.2 (Rs.some Y (by have := aa; omega)) <| oLR (p := (w64 ((w64 (((pXY c j).2) * c)) + ((pXY c j).1))).toNat * 1) (vs := [.bool (at' B (w64 ((w64 (((pXY c j).2) * c)) + ((pXY c j).1))))]) (v := .bool (at' B (w64 ((w64 (((pXY c j).2) * c)) + ((pXY c j).1))))) hs Y rfl ty4 (flat_at (enc := eB) (sz := 1) (fun _ => rfl) B (w64 ((w64 (((pXY c j).2) * c)) + ((pXY c j).1))) aa.1 aa.2 0 1 (by decide)) rfl rfl <| mB rfl ?_
   obtain ⟨au, K, hm⟩ := bS hm
   refine oJN 5 (fun f ds w => ∃ (ac : Im), ds = [] ∧ Im.le bb ac ∧ Sat ac (BB73 :: HL.ob av (.deferred (some [])) :: blk b5 3 [iN u] :: blk b3 3 [iN R] :: blk b1 3 [iN T] :: F) w ∧ f 56 = .bool au ∧ f 3 = pQ Q 0 ∧ f 4 = pQ aN 0 ∧ f 5 = pQ aM 0 ∧ f 6 = pQ aL 0 ∧ f 7 = pQ b1 0 ∧ f 8 = pQ b3 0 ∧ f 9 = iN 0 ∧ f 10 = pQ b5 0 ∧ f 13 = iN (w64 (T + (w64 (l * (w64 (((pXY c j).1) - (w64 (Int.tdiv c 2)))))))) ∧ f 14 = iN (w64 (R + (w64 (l * (w64 (((pXY c j).2) - (w64 (Int.tdiv e 2))))))))) ?_ ?_
   · by_cases G : (at' B (w64 ((w64 (((pXY c j).2) * c)) + ((pXY c j).1)))) = true
     · rw [if_pos G] at K
       refine oG (yO rfl rfl G) ?_
       replace W := W.mono ((y.trans m).trans C)
       refine ow_loadI (vs := (cL0 A z E x.length D)) (v := .agg (cL0 A z E x.length D).toArray) hs W rfl ty26 rfl rfl rfl <| oG (yO rfl rfl G) <| mI rfl <| oG (yO rfl rfl G) <| mI rfl <| oG (yO rfl rfl G) ?_
       obtain ⟨aE, aW, K⟩ := bS K
       replace M := M.mono ((y.trans m).trans C)
       refine oC (fi := []) (vs := [.agg (cL0 A z E x.length D).toArray, iN (w64 (T + (w64 (l * (w64 (((pXY c j).1) - (w64 (Int.tdiv c 2)))))))), iN (w64 (R + (w64 (l * (w64 (((pXY c j).2) - (w64 (Int.tdiv e 2))))))))]) (ca := []) rfl ⟨rfl, rfl, rfl, trivial⟩ en121 (f121_ok _ _ _ _ _ aW hs M) ?_
       clear hs; rintro _ w ⟨be, aI, hs, rfl⟩
       refine oV (xPt (v := .bool aE) ((rfl : ev _ _ _ = _).trans (congrArg Value.bool G)) rfl) rfl <| oN ?_
       obtain rfl := oJ K
       exact ⟨be, rfl, aI, hs, rfl, rfl, rfl, rfl, rfl, rfl, rfl, rfl, rfl, rfl, rfl⟩
     rw [if_neg G] at K
     refine oO (b := false) (yO rfl rfl (bF G)) rfl <| oO (b := false) (yO rfl rfl (bF G)) rfl <| oO (b := false) (yO rfl rfl (bF G)) rfl <| oO (b := false) (yO rfl rfl (bF G)) rfl <| oV (xPf (v := .bool false) ((rfl : ev _ _ _ = _).trans (congrArg Value.bool (bF G))) rfl) rfl <| oN ?_
     obtain rfl := oJ K
     exact ⟨bb, rfl, iR, hs, rfl, rfl, rfl, rfl, rfl, rfl, rfl, rfl, rfl, rfl, rfl⟩
   clear K hs
   rintro f ds w ⟨ac, rfl, O, hs, htbb77, aT, aS, am, al, aR, aQ, aP, V, af, ae⟩
   refine oN <| sK ?_
   by_cases ad : au = true
   · rw [if_pos ad] at hm
     refine cIt htbb77 ad ?_
     obtain ⟨ar, aV, hm⟩ := bS hm
     obtain ⟨Z, aU, hm⟩ := bS hm
     refine cD mixed rfl (fun f0 L f w => ∃ (t : Im), Im.le ac t ∧ f = frL [(57, 0, .func (.func 84) #[] #[]), (58, 1, iN u), (59, 2, .agg (cL0 A z E x.length D).toArray), (60, 3, iN (w64 (T + (w64 (l * (w64 (((pXY c j).1) - (w64 (Int.tdiv c 2))))))))), (61, 4, iN (w64 (R + (w64 (l * (w64 (((pXY c j).2) - (w64 (Int.tdiv e 2))))))))), (62, 5, iN ar), (63, 6, iN Z)] L f0 ∧ Sat t (BB73 :: HL.ob av (.deferred (some [])) :: rL [(7, blk b5 3 [iN Z])] (blk b5 3 [iN u]) L :: blk b3 3 [iN R] :: blk b1 3 [iN T] :: F) w ∧ (L 7 = true → L 1 = true)) ⟨ac, iR, (frL_ff _).symm, hs.drew, (fun h => by cases h)⟩ ⟨?_, ?_, ?_, ?_, ?_, ?_, ?_, ?_, trivial⟩ ?_
     all_goals clear hs
     · rintro L f w _ hL ⟨t, d, rfl, hs, q⟩
       replace an := an.mono ((((y.trans m).trans C).trans O).trans d)
       refine ld1I hs an al ty77 rfl ?_
       exact oN ⟨rfl, rfl, t, d, fS rfl rfl, hs, q⟩
     · rintro L f w _ hL ⟨t, d, rfl, hs, q⟩
       replace hs := hs.eqv (k := 2) rfl ((rL_f (show L 7 = false from pF q hL) (rL_n)))
       refine ld1 (k := 2) hs rfl V ty3 rfl ?_
       replace hs := hs.eqv (k := 2) rfl (Eq.symm (a := rL [(7, blk b5 3 [iN Z])] (blk b5 3 [iN u]) (setL L 1)) (((rL_f (L := setL L 1) (show L 7 = false from pF q hL) (rL_n)))))
       exact oN ⟨rfl, rfl, t, d, fS rfl rfl, hs, (fun _ => rfl)⟩
     · rintro L f w _ hL ⟨t, d, rfl, hs, q⟩
       replace W := W.mono ((((y.trans m).trans C).trans O).trans d)
       refine ow_loadI (vs := (cL0 A z E x.length D)) (v := .agg (cL0 A z E x.length D).toArray) hs W am ty26 rfl rfl rfl ?_
       exact oN ⟨rfl, rfl, t, d, fS rfl rfl, hs, q⟩
     · rintro L f w _ hL ⟨t, d, rfl, hs, q⟩
       refine mI af ?_
       exact oN ⟨rfl, rfl, t, d, fS rfl rfl, hs, q⟩
     · rintro L f w _ hL ⟨t, d, rfl, hs, q⟩
       refine mI ae ?_
       exact oN ⟨rfl, rfl, t, d, fS rfl rfl, hs, q⟩
     · rintro L f w ⟨aj, ai, ah, _⟩ hL ⟨t, d, rfl, hs, q⟩
       replace M := M.mono ((((y.trans m).trans C).trans O).trans d)
       refine oC (fi := []) (vs := [.agg (cL0 A z E x.length D).toArray, iN (w64 (T + (w64 (l * (w64 (((pXY c j).1) - (w64 (Int.tdiv c 2)))))))), iN (w64 (R + (w64 (l * (w64 (((pXY c j).2) - (w64 (Int.tdiv e 2))))))))]) (ca := []) rfl ⟨(fG rfl aj), (fG rfl ai), (fG rfl ah), trivial⟩ en91 (f91_ok _ _ _ _ _ aV hs M) ?_
       clear hs; rintro _ w ⟨bd, aH, hs, rfl⟩
       exact oN ⟨rfl, rfl, bd, (d.trans aH), fS rfl rfl, hs, q⟩
     · rintro L f w ⟨ak, ab, ag, _, _⟩ hL ⟨t, d, rfl, hs, q⟩
       refine oC (fi := []) (vs := [iN u, iN ar]) (ca := []) (fG rfl ak) ⟨(fG rfl ab), (fG rfl ag), trivial⟩ en84 (f84_ok _ _ aU hs) ?_
       clear hs; rintro _ w ⟨bc, aG, hs, rfl⟩
       exact oN ⟨rfl, rfl, bc, (d.trans aG), fS rfl rfl, hs, q⟩
     · rintro L f w ⟨ao, _, ak, ab, aj, ai, ah, ag, _, _⟩ hL ⟨t, d, rfl, hs, q⟩
       replace hs := hs.eqv (k := 2) rfl ((rL_f hL (rL_n)))
       refine oS (k := 2) (vs := [iN Z]) (cs' := [iN Z]) hs rfl V (fG rfl ao) ty3 rfl rfl (nLe rfl) rfl rfl ?_
       clear hs; intro w hs
       exact oN ⟨rfl, rfl, t, d, frL_no rfl, hs, (fun _ => ab)⟩
     rintro L f w hall ⟨ba, aF, rfl, hs, _⟩
     rw [frL_tt _ rfl hall]
     replace hs := hs.eqv (k := 2) rfl (rL_t (hall 7 (nLe rfl)))
     refine blockK_n ?_
     obtain rfl := oJ hm
     refine ⟨rfl, ba, 0, _, hs, rfl, ?_⟩
     clear hs; intro w hs
     exact ⟨rfl, Z, ba, (((m.trans C).trans O).trans aF), (by rw [show (pN c e) - (j + 1) = (pN c e) - 1 - j by omega]; exact hit2), hs⟩
   rw [if_neg ad] at hm
   refine cIf htbb77 (bF ad) <| cw_skip <| blockK_n ?_
   obtain rfl := oJ hm
   refine ⟨rfl, ac, 0, _, hs, rfl, ?_⟩
   clear hs; intro w hs
   exact ⟨rfl, u, ac, ((m.trans C).trans O), (by rw [show (pN c e) - (j + 1) = (pN c e) - 1 - j by omega]; exact hit2), hs⟩
 clear hm hs
 rintro _ w ⟨u, U, m, hit, hs⟩
 rw [Nat.sub_self] at hit
 obtain rfl := oJ hit
 refine ⟨U, _, hs, ?_⟩
 clear hs; intro w hs
 replace hm := aX
 refine blockK_n <| sQR <| cR <| ld1 (k := 1) hs rfl rfl ty3 rfl <| asI rfl <| oN <| sK <| cw_ret <| ret_mark (k := 0) hs rfl ?_
 clear hs; intro w hs
 refine ret_okM (rs := [.tmp 9]) (vs := [iN u]) (.inr rfl) rfl ⟨rfl, trivial⟩ ?_
 obtain rfl := oJ hm
 replace hs := hs.erase 0
 replace hs := hs.erase 0
 replace hs := hs.erase 0
 exact ⟨U, (y.trans m), hs, rfl⟩
def f87c_s0 (D : Int) (O : Int) (N : Int) (M : Int) (C : List Bool) (K : Int) (H : Int) (G : Int) (B : List Int) (e : List Int) (xe : Int × Int) : Option (List Int) :=
  ((f119a_m (xe.1) (xe.2) O N M C K H G B).bind fun au => ((f122_m au).bind fun E => (if e.length + [E].length ≤ 1099511627776 then some (e ++ [E]) else none)))
def f87c_m (D : Int) (Q : Int) (O : Int) (N : Int) (M : Int) (C : List Bool) (K : Int) (H : Int) (G : Int) (B : List Int) : Option (Int × Int × List Int) :=
  (if 0 ≤ (0 : Int) ∧ (0 : Int) ≤ (w64 (D * Q)) ∧ (w64 (D * Q)) ≤ 1099511627776 then (if (0 ≤ D ∧ D ≤ 1000000) ∧ 0 ≤ Q ∧ Q ≤ 1000000 then ((itFrom (S := List Int) (fun j s => f87c_s0 D O N M C K H G B s (pXY D j)) 0 (pN D Q) (List.replicate (0 : Int).toNat (0 : Int))).bind fun e => some (D, Q, e)) else none) else none)
theorem f87c_ok (D : Int) (Q : Int) (O : Int) (N : Int) (M : Int) (C : List Bool) (K : Int) (H : Int) (G : Int) (B : List Int) {r : Int × Int × List Int} (hm : f87c_m D Q O N M C K H G B = some r) {Z : Nat} {W : Nat} {an : Option Addr} {al : Nat} {V : Nat} {U : Nat} {am : Option Addr} {ak : Nat} {T : Nat} {I : Im} {F : List HP} {w : World} (hs : Sat I (F) w) (aj : Ib I Z 3 [iN O]) (ac : Rs I 1 an C.length al (C.flatMap eB)) (ai : Ib I W 40 (cL0 N M an C.length al)) (ah : Ib I V 3 [iN K]) (ab : Rs I 1 am B.length ak (B.flatMap e64)) (ag : Ib I U 26 (cL0 H G am B.length ak)) (af : Ib I T 77 [.func (.func 84) #[] #[]]) :
    CV P 87 [iN D, iN Q, .func (.func 119) #[] #[pQ Z 0, pQ W 0, pQ V 0, pQ U 0, pQ T 0]] w fun v w' => ∃ (J : Im) (a2 : Option Addr) (c2 : Nat), Im.le I J ∧ Sat J (osl 3 1 a2 r.2.2.length c2 (r.2.2.flatMap e64) :: F) w' ∧ v = .agg (rL2 r a2 c2).toArray := by
 unfold f87c_m at hm
 refine cv_ofM (n := 33) Proofs.Tryz.func87 rfl rfl (nLe rfl) <| cQ <| cR <| oB (v := .func (.func 119) #[] #[pQ Z 0, pQ W 0, pQ V 0, pQ U 0, pQ T 0]) (cs := [.func (.func 119) #[] #[pQ Z 0, pQ W 0, pQ V 0, pQ U 0, pQ T 0]]) hs rfl rfl ?_
 clear hs; intro b1 w hs
 refine ow_alloc hs ty26 rfl ?_
 clear hs; intro b3 w hs
 refine oN <| sQR <| cR <| mI rfl <| mI rfl <| mI rfl <| mI rfl <| oV (x_mul rfl rfl) rfl ?_
 have az := (iS hm).1
 replace hm := (iS hm).2
 refine ow_makeT (enc := e64) (z := (0 : Int)) (i := (0 : Int)) (j := (w64 (D * Q))) hs sl24 ty3 el3 rfl rfl rfl rfl az.1 az.2.1 az.2.2 (by decide) ?_
 clear hs; intro a6 w hs
 refine oU (vp := [(0, iN D), (1, iN Q), (2, .slice a6 ((List.replicate (0 : Int).toNat (0 : Int)).length) ((w64 (D * Q)).toNat))]) (cs := (cL0 D Q a6 ((List.replicate (0 : Int).toNat (0 : Int)).length) ((w64 (D * Q)).toNat))) st26 ty26 ⟨rfl, rfl, rfl, rfl, rfl, rfl, trivial⟩ rfl <| ow_alloc hs ty26 rfl ?_
 clear hs; intro b8 w hs
 refine oS (k := 0) (vs := (cL0 D Q a6 ((List.replicate (0 : Int).toNat (0 : Int)).length) ((w64 (D * Q)).toNat))) (cs' := (cL0 D Q a6 ((List.replicate (0 : Int).toNat (0 : Int)).length) ((w64 (D * Q)).toNat))) hs rfl rfl rfl ty26 rfl rfl (nLe rfl) rfl rfl ?_
 clear hs; intro w hs
 refine oN <| sQR <| cQ <| cR <| mI rfl <| mI rfl <| oC (fi := []) (vs := [iN D, iN Q]) (ca := []) rfl ⟨rfl, rfl, trivial⟩ en120 (f120_ok hs) ?_
 clear hs; rintro _ w ⟨aT, a7, a5, R, hs, rfl, aP, aO⟩
 refine oN <| sK <| cw_block ?_
 have aN := (iS hm).1
 replace hm := (iS hm).2
 obtain ⟨aH, aL, aK⟩ := bS hm
 replace hm := aL; clear aL
 refine cw_range hs rfl en146 ?_
 clear hs; intro a4 aV fnD59 aR w aA hs
 refine CV.mono (f146_it D Q aN (Inv := fun j w => ∃ (e : List Int) (q : Option Addr) (p : Nat) (ae : Im), Im.le aT ae ∧ itFrom (fun j s => f87c_s0 D O N M C K H G B s (pXY D j)) j ((pN D Q) - j) e = some aH ∧ Sat ae (aR :: HL.ob aV (.deferred (some [])) :: blk b8 26 (cL0 D Q q e.length p) :: osl 3 1 q e.length p (e.flatMap e64) :: blk b3 26 (cL0 0 0 none 0 0) :: blk b1 77 [.func (.func 119) #[] #[pQ Z 0, pQ W 0, pQ V 0, pQ U 0, pQ T 0]] :: F) w) ?_ ?_ ⟨List.replicate (0 : Int).toNat (0 : Int), a6, (w64 (D * Q)).toNat, aT, iR, hm, hs⟩) ?_
 · rintro j w ⟨e, q, p, ae, y, hit, hs⟩
   exact ⟨_, _, hs, aP.mono y, aO.mono y⟩
 · clear hm hs
   rintro j hj w ⟨e, q, p, ae, y, hit, hs⟩
   obtain ⟨sn, hm, hit2⟩ := it_succ (k := (pN D Q) - 1 - j) (by omega) hit
   clear hit
   unfold f87c_s0 at hm
   refine yc_of (k := 0) hs aA rfl rfl <| cQ <| cR <| asI rfl <| oN <| sK <| cR <| asI rfl <| oN ?_
   refine ⟨rfl, ae, 0, _, hs, rfl, ?_⟩
   clear hs; intro BB64 w hs
   refine cw_block ?_
   obtain ⟨au, aJ, hm⟩ := bS hm
   obtain ⟨E, aI, hm⟩ := bS hm
   have aM := (iS hm).1
   replace hm := (iS hm).2
   refine cD mixed rfl (fun f0 L f w => ∃ (A : Option Addr) (x : Option Addr) (u : Nat) (Iq : Im), Im.le ae Iq ∧ f = frL [(22, 0, pQ b8 2), (23, 1, .slice q e.length p), (24, 2, .func (.func 119) #[] #[pQ Z 0, pQ W 0, pQ V 0, pQ U 0, pQ T 0]), (25, 3, iN ((pXY D j).1)), (26, 4, iN ((pXY D j).2)), (27, 5, iN au), (28, 6, iN E), (29, 7, .slice A ([E].length) 1), (30, 8, .slice x ((e ++ [E]).length) u), (31, 9, pQ b8 2)] L f0 ∧ Sat Iq (BB64 :: HL.ob aV (.deferred (some [])) :: rL [(10, blk b8 26 (cL0 D Q x ((e ++ [E]).length) u))] (blk b8 26 (cL0 D Q q e.length p)) L :: rL [(8, osl 3 1 x (e ++ [E]).length u ((e ++ [E]).flatMap e64))] (osl 3 1 q e.length p (e.flatMap e64)) L :: blk b3 26 (cL0 0 0 none 0 0) :: blk b1 77 [.func (.func 119) #[] #[pQ Z 0, pQ W 0, pQ V 0, pQ U 0, pQ T 0]] :: F) w ∧ (L 7 = true → Rs Iq 1 A [E].length 1 ([E].flatMap e64)) ∧ (L 10 = true → L 1 = true) ∧ (L 10 = true → L 8 = true)) ⟨none, none, 0, ae, iR, (frL_ff _).symm, hs.drew, (fun h => by cases h), (fun h => by cases h), (fun h => by cases h)⟩ ⟨?_, ?_, ?_, ?_, ?_, ?_, ?_, ?_, ?_, ?_, ?_, trivial⟩ ?_
   all_goals clear hs
   · rintro L f w _ hL ⟨A, x, u, Iq, t, rfl, hs, l, d, c⟩
     refine oF (b := b8) (o := 0) fl26_2 rfl ?_
     exact oN ⟨rfl, rfl, A, x, u, Iq, t, fS rfl rfl, hs, (fun h => l h), d, c⟩
   · rintro L f w ⟨aG, _⟩ hL ⟨A, x, u, Iq, t, rfl, hs, l, d, c⟩
     replace hs := hs.eqv (k := 2) rfl ((rL_f (show L 10 = false from pF d hL) (rL_n)))
     refine ld1 (k := 2) hs rfl (fG rfl aG) ty24 rfl ?_
     replace hs := hs.eqv (k := 2) rfl (Eq.symm (a := rL [(10, blk b8 26 (cL0 D Q x ((e ++ [E]).length) u))] (blk b8 26 (cL0 D Q q e.length p)) (setL L 1)) (((rL_f (L := setL L 1) (show L 10 = false from pF d hL) (rL_n)))))
     exact oN ⟨rfl, rfl, A, x, u, Iq, t, fS rfl rfl, hs, (fun h => l h), (fun _ => rfl), c⟩
   · rintro L f w _ hL ⟨A, x, u, Iq, t, rfl, hs, l, d, c⟩
     refine ld1 (k := 5) hs rfl rfl ty77 rfl ?_
     exact oN ⟨rfl, rfl, A, x, u, Iq, t, fS rfl rfl, hs, (fun h => l h), d, c⟩
   · rintro L f w _ hL ⟨A, x, u, Iq, t, rfl, hs, l, d, c⟩
     refine mI rfl ?_
     exact oN ⟨rfl, rfl, A, x, u, Iq, t, fS rfl rfl, hs, (fun h => l h), d, c⟩
   · rintro L f w _ hL ⟨A, x, u, Iq, t, rfl, hs, l, d, c⟩
     refine mI rfl ?_
     exact oN ⟨rfl, rfl, A, x, u, Iq, t, fS rfl rfl, hs, (fun h => l h), d, c⟩
   · rintro L f w ⟨aF, aE, aD, _⟩ hL ⟨A, x, u, Iq, t, rfl, hs, l, d, c⟩
     replace aj := aj.mono ((R.trans y).trans t); replace ac := ac.mono ((R.trans y).trans t); replace ai := ai.mono ((R.trans y).trans t); replace ah := ah.mono ((R.trans y).trans t); replace ab := ab.mono ((R.trans y).trans t); replace ag := ag.mono ((R.trans y).trans t); replace af := af.mono ((R.trans y).trans t)
     refine oC (fi := []) (vs := [iN ((pXY D j).1), iN ((pXY D j).2)]) (ca := [pQ Z 0, pQ W 0, pQ V 0, pQ U 0, pQ T 0]) (fG rfl aF) ⟨(fG rfl aE), (fG rfl aD), trivial⟩ en119 (f119a_ok _ _ _ _ _ _ _ _ _ _ aJ hs aj ac ai ah ab ag af) ?_
     clear hs; rintro _ w ⟨aY, aq, hs, rfl⟩
     exact oN ⟨rfl, rfl, A, x, u, aY, (t.trans aq), fS rfl rfl, hs, (fun h => (l h).mono aq), d, c⟩
   · rintro L f w ⟨aC, _, _⟩ hL ⟨A, x, u, Iq, t, rfl, hs, l, d, c⟩
     refine oC (fi := []) (vs := [iN au]) (ca := []) rfl ⟨(fG rfl aC), trivial⟩ en122 (f122_ok _ aI hs) ?_
     clear hs; rintro _ w ⟨aX, ap, hs, rfl⟩
     exact oN ⟨rfl, rfl, A, x, u, aX, (t.trans ap), fS rfl rfl, hs, (fun h => (l h).mono ap), d, c⟩
   · rintro L f w ⟨av, _⟩ hL ⟨A, x, u, Iq, t, rfl, hs, l, d, c⟩
     refine ow_buildSlice (vp := [(0, iN E)]) (cs := [iN E]) hs sl24 ty3 rfl ⟨rfl, (fG rfl av), trivial⟩ (by decide) rfl (by decide) ?_
     clear hs; intro A aS w ay hs aa
     replace aa : Rs aS 1 A [E].length 1 ([E].flatMap e64) := aa
     exact oN ⟨rfl, rfl, A, x, u, aS, (t.trans ay), (Eq.trans (fSG (i := 7) rfl rfl) (rfl)), hs, (fun _ => aa), d, c⟩
   · rintro L f w ⟨aw, ao, av, _⟩ hL ⟨A, x, u, Iq, t, rfl, hs, l, d, c⟩
     have aa := l ao
     replace hs := hs.eqv (k := 3) rfl ((rL_f hL (rL_n)))
     replace hs := hs.eqv (k := 2) rfl ((rL_f (show L 10 = false from pF c hL) (rfl)))
     refine ow_appendT (k := 3) (enc := e64) (X := e) (Y := [E]) hs rfl sl24 ty3 el3 rfl (fG rfl aw) (fG rfl ao) aa (fun _ => rfl) aM (by decide) ?_
     clear hs; intro x u w hs
     replace hs := hs.eqv (k := 2) rfl (Eq.symm (a := rL [(10, blk b8 26 (cL0 D Q x ((e ++ [E]).length) u))] (blk b8 26 (cL0 D Q q e.length p)) (setL L 8)) (((rL_f (L := setL L 8) (show L 10 = false from pF c hL) (rfl)))))
     exact oN ⟨rfl, rfl, A, x, u, Iq, t, (Eq.trans (fSG (i := 8) rfl rfl) (rfl)), hs, (fun h => l h), d, (fun _ => rfl)⟩
   · rintro L f w ⟨aG, aw, aF, aE, aD, aC, av, ao, aB, _⟩ hL ⟨A, x, u, Iq, t, rfl, hs, l, d, c⟩
     have aa := l ao
     refine oF (b := b8) (o := 0) fl26_2 rfl ?_
     exact oN ⟨rfl, rfl, A, x, u, Iq, t, fS rfl rfl, hs, (fun h => l h), d, c⟩
   · rintro L f w ⟨aW, aB, _, aG, aw, aF, aE, aD, aC, av, ao, _, _⟩ hL ⟨A, x, u, Iq, t, rfl, hs, l, d, c⟩
     have aa := l ao
     replace hs := hs.eqv (k := 2) rfl ((rL_f hL (rL_n)))
     refine oS (k := 2) (vs := [.slice x ((e ++ [E]).length) u]) (cs' := (cL0 D Q x ((e ++ [E]).length) u)) hs rfl (fG rfl aW) (fG rfl aB) ty24 rfl rfl (nLe rfl) rfl rfl ?_
     clear hs; intro w hs
     exact oN ⟨rfl, rfl, A, x, u, Iq, t, frL_no rfl, hs, (fun h => l h), (fun _ => aw), (fun _ => aB)⟩
   rintro L f w hall ⟨A, x, u, aU, ax, rfl, hs, aa, _, _⟩
   rw [frL_tt _ rfl hall]
   replace hs := hs.eqv (k := 2) rfl (rL_t (hall 10 (nLe rfl)))
   replace hs := hs.eqv (k := 3) rfl (rL_t (hall 8 (nLe rfl)))
   replace aa := aa (hall 7 (nLe rfl))
   refine blockK_n ?_
   obtain rfl := oJ hm
   refine ⟨rfl, aU, 0, _, hs, rfl, ?_⟩
   clear hs; intro w hs
   exact ⟨rfl, e ++ [E], x, u, aU, (y.trans ax), (by rw [show (pN D Q) - (j + 1) = (pN D Q) - 1 - j by omega]; exact hit2), hs⟩
 clear hm hs
 rintro _ w ⟨e, q, p, ae, y, hit, hs⟩
 rw [Nat.sub_self] at hit
 obtain rfl := oJ hit
 refine ⟨ae, _, hs, ?_⟩
 clear hs; intro w hs
 replace hm := aK
 refine blockK_n <| sQR <| cR <| oL (k := 1) (vs := (cL0 D Q q e.length p)) (v := .agg (cL0 D Q q e.length p).toArray) hs rfl rfl ty26 rfl rfl rfl <| oS (k := 3) (vs := (cL0 D Q q e.length p)) (cs' := (cL0 D Q q e.length p)) hs rfl rfl rfl ty26 rfl rfl (nLe rfl) rfl rfl ?_
 clear hs; intro w hs
 refine oN <| sK <| cw_ret <| ret_mark (k := 0) hs rfl ?_
 clear hs; intro w hs
 refine ret_okM (rs := [.cell 6 26]) (vs := [.agg (cL0 D Q q e.length p).toArray]) (.inr rfl) rfl ⟨⟨_, true, _, (cL0 D Q q e.length p), rfl, ty26, CA_blk (off := 0) (m := 3) (hs.blk (k := 2) rfl), rfl, rfl⟩, trivial⟩ ?_
 obtain rfl := oJ hm
 replace hs := hs.erase 0
 replace hs := hs.erase 1
 replace hs := hs.erase 1
 exact ⟨ae, q, p, (R.trans y), hs, rfl⟩
def f82a_m (e : Int) (d : Int) (c : List Int) (t : Int) (s : Int) (a : List Bool) (x2 : Int) (x3 : Int) : Option (Int × Int × List Int × Int) :=
  ((f85_m e d c).bind fun ab => (if (!ab) = true then some (0, 0, ([] : List Int), 20) else ((f117_m t s (a.length : Int)).bind fun aa => ((if (!aa) = true then some true else ((f118_m a true).bind fun Z => some (!Z))).bind fun ac => (if ac = true then some (0, 0, ([] : List Int), 22) else ((f87c_m e d x3 t s a x2 e d c).bind fun M => some (M.1, M.2.1, M.2.2, 0)))))))
theorem f82a_ok (e : Int) (d : Int) (c : List Int) (t : Int) (s : Int) (a : List Bool) (x2 : Int) (x3 : Int) {r : Int × Int × List Int × Int} (hm : f82a_m e d c t s a x2 x3 = some r) {j : Option Addr} {i : Nat} {C : Option Addr} {B : Nat} {I : Im} {F : List HP} {w : World} (hs : Sat I (F) w) (H : Rs I 1 j c.length i (c.flatMap e64)) (y : Rs I 1 C a.length B (a.flatMap eB)) :
    CV P 82 [.agg (cL0 e d j c.length i).toArray, .agg (cL0 t s C a.length B).toArray, iN x2, iN x3, .func (.func 84) #[] #[]] w fun v w' => ∃ (J : Im) (a2 : Option Addr) (c2 : Nat), Im.le I J ∧ Sat J (F) w' ∧ v = .tuple #[.agg (cL0 r.1 r.2.1 a2 r.2.2.1.length c2).toArray, iN r.2.2.2] ∧ Rs J 1 a2 r.2.2.1.length c2 (r.2.2.1.flatMap e64) := by
 unfold f82a_m at hm
 refine cv_of (n := 38) Proofs.Tryz.func82 rfl rfl (nLe rfl) <| cQ <| cR <| oB (v := .agg (cL0 e d j c.length i).toArray) (cs := (cL0 e d j c.length i)) hs rfl rfl ?_
 clear hs; intro b1 w hs
 refine oB (v := .agg (cL0 t s C a.length B).toArray) (cs := (cL0 t s C a.length B)) hs rfl rfl ?_
 clear hs; intro b3 w hs
 refine oB (v := iN x2) (cs := [iN x2]) hs rfl rfl ?_
 clear hs; intro b5 w hs
 refine oB (v := iN x3) (cs := [iN x3]) hs rfl rfl ?_
 clear hs; intro b7 w hs
 refine oB (v := .func (.func 84) #[] #[]) (cs := [.func (.func 84) #[] #[]]) hs rfl rfl ?_
 clear hs; intro b9 w hs
 refine ow_alloc hs ty26 rfl ?_
 clear hs; intro au w hs
 refine asI rfl <| oN <| sQR <| cQ <| cR <| oL (k := 5) (vs := (cL0 e d j c.length i)) (v := .agg (cL0 e d j c.length i).toArray) hs rfl rfl ty26 rfl rfl rfl ?_
 obtain ⟨ab, ap, hm⟩ := bS hm
 refine oC (fi := []) (vs := [.agg (cL0 e d j c.length i).toArray]) (ca := []) rfl ⟨rfl, trivial⟩ en85 (f85_ok _ _ _ ap hs H) ?_
 clear hs; rintro _ w ⟨aB, A, hs, rfl⟩
 refine oV (x_not (b := ab) rfl) rfl <| oN <| sK ?_
 by_cases Q : (!ab) = true
 · rw [if_pos Q] at hm
   refine cIt rfl Q <| cQ <| cR <| oU (vp := []) (cs := (cL0 0 0 none 0 0)) st26 ty26 trivial rfl <| oS (k := 0) (vs := (cL0 0 0 none 0 0)) (cs' := (cL0 0 0 none 0 0)) hs rfl rfl rfl ty26 rfl rfl (nLe rfl) rfl rfl ?_
   clear hs; intro w hs
   refine asI rfl <| oN <| sK <| cw_ret <| seqK_r <| rK (rs := [.cell 10 26, .tmp 11]) (vs := [.agg (cL0 0 0 none 0 0).toArray, iN 20]) (.inr rfl) rfl ⟨⟨_, true, _, (cL0 0 0 none 0 0), rfl, ty26, CA_blk (off := 0) (m := 3) (hs.blk (k := 0) rfl), rfl, rfl⟩, rfl, trivial⟩ ?_
   obtain rfl := oJ hm
   replace hs := hs.erase 0
   replace hs := hs.erase 0
   replace hs := hs.erase 0
   replace hs := hs.erase 0
   replace hs := hs.erase 0
   replace hs := hs.erase 0
   exact ⟨aB, none, 0, A, hs, rfl, (Rs.nil _ _ _)⟩
 rw [if_neg Q] at hm
 refine cIf rfl (bF Q) <| cw_skip <| sQR <| cQ <| cR <| oF (b := b3) (o := 0) fl40_0 rfl <| ld1 (k := 4) hs rfl rfl ty3 rfl <| oF (b := b3) (o := 0) fl40_1 rfl <| ld1 (k := 4) hs rfl rfl ty3 rfl <| oF (b := b3) (o := 0) fl40_2 rfl <| ld1 (k := 4) hs rfl rfl ty38 rfl ?_
 refine oV (x_len sl38 rfl) rfl ?_
 obtain ⟨aa, ao, hm⟩ := bS hm
 refine oC (fi := []) (vs := (cL1 t s (a.length : Int))) (ca := []) rfl ⟨rfl, rfl, rfl, trivial⟩ en117 (f117_ok _ _ _ ao hs) ?_
 clear hs; rintro _ w ⟨av, G, hs, rfl⟩
 refine oV (x_not (b := aa) rfl) rfl <| mB rfl ?_
 obtain ⟨ac, p, hm⟩ := bS hm
 refine oJN 5 (fun f ds w => ∃ (ad : Im), ds = [] ∧ Im.le av ad ∧ Sat ad (blk au 26 (cL0 0 0 none 0 0) :: blk b9 77 [.func (.func 84) #[] #[]] :: blk b7 3 [iN x3] :: blk b5 3 [iN x2] :: blk b3 40 (cL0 t s C a.length B) :: blk b1 26 (cL0 e d j c.length i) :: F) w ∧ f 30 = .bool ac ∧ f 5 = pQ b1 0 ∧ f 6 = pQ b3 0 ∧ f 7 = pQ b5 0 ∧ f 8 = pQ b7 0 ∧ f 9 = pQ b9 0 ∧ f 10 = pQ au 0 ∧ f 11 = iN 0) ?_ ?_
 · by_cases h : (!aa) = true
   · rw [if_pos h] at p
     refine oO (b := true) (yO rfl rfl h) rfl <| oO (b := true) (yO rfl rfl h) rfl <| oO (b := true) (yO rfl rfl h) rfl <| oO (b := true) (yO rfl rfl h) rfl <| oV (xPt (v := .bool true) ((rfl : ev _ _ _ = _).trans (congrArg Value.bool h)) rfl) rfl <| oN ?_
     obtain rfl := oJ p
     exact ⟨av, rfl, iR, hs, rfl, rfl, rfl, rfl, rfl, rfl, rfl, rfl⟩
   rw [if_neg h] at p
   refine oG (yO rfl rfl (bF h)) <| oF (b := b3) (o := 0) fl40_2 rfl <| oG (yO rfl rfl (bF h)) <| ld1 (k := 4) hs rfl rfl ty38 rfl <| oG (yO rfl rfl (bF h)) ?_
   obtain ⟨Z, an, p⟩ := bS p
   replace y := y.mono (A.trans G)
   refine oC (fi := []) (vs := [.slice C a.length B, .bool true]) (ca := []) rfl ⟨rfl, rfl, trivial⟩ en118 (f118_ok _ _ an hs y) ?_
   clear hs; rintro _ w ⟨aA, aj, hs, rfl⟩
   refine oG (yO rfl rfl (bF h)) <| oV (x_not (b := Z) rfl) rfl <| oV (xPf (v := .bool (!Z)) ((rfl : ev _ _ _ = _).trans (congrArg Value.bool (bF h))) rfl) rfl <| oN ?_
   obtain rfl := oJ p
   exact ⟨aA, rfl, aj, hs, rfl, rfl, rfl, rfl, rfl, rfl, rfl, rfl⟩
 clear p hs
 rintro f ds w ⟨ad, rfl, L, hs, htbb24, D, U, T, S, R, l, ak⟩
 refine oN <| sK ?_
 by_cases O : ac = true
 · rw [if_pos O] at hm
   refine cIt htbb24 O <| cQ <| cR <| oU (vp := []) (cs := (cL0 0 0 none 0 0)) st26 ty26 trivial rfl <| oS (k := 0) (vs := (cL0 0 0 none 0 0)) (cs' := (cL0 0 0 none 0 0)) hs rfl l rfl ty26 rfl rfl (nLe rfl) rfl rfl ?_
   clear hs; intro w hs
   refine asI rfl <| oN <| sK <| cw_ret <| seqK_r <| rK (rs := [.cell 10 26, .tmp 11]) (vs := [.agg (cL0 0 0 none 0 0).toArray, iN 22]) (.inr rfl) rfl ⟨⟨_, true, _, (cL0 0 0 none 0 0), l, ty26, CA_blk (off := 0) (m := 3) (hs.blk (k := 0) rfl), rfl, rfl⟩, rfl, trivial⟩ ?_
   obtain rfl := oJ hm
   replace hs := hs.erase 0
   replace hs := hs.erase 0
   replace hs := hs.erase 0
   replace hs := hs.erase 0
   replace hs := hs.erase 0
   replace hs := hs.erase 0
   exact ⟨ad, none, 0, ((A.trans G).trans L), hs, rfl, (Rs.nil _ _ _)⟩
 rw [if_neg O] at hm
 refine cIf htbb24 (bF O) <| cw_skip <| sQR <| cR <| oF (b := b1) (o := 0) fl26_0 D <| ld1 (k := 5) hs rfl rfl ty3 rfl <| oF (b := b1) (o := 0) fl26_1 D <| ld1 (k := 5) hs rfl rfl ty3 rfl ?_
 replace hs := hs.front (k := 2) rfl
 obtain ⟨aJ, N, Y, hs⟩ := hs.freezeB
 replace hs := hs.front (k := 3) rfl
 obtain ⟨aI, K, X, hs⟩ := hs.freezeB
 replace hs := hs.front (k := 2) rfl
 obtain ⟨aH, E, W, hs⟩ := hs.freezeB
 replace hs := hs.front (k := 2) rfl
 obtain ⟨aG, z, V, hs⟩ := hs.freezeB
 replace hs := hs.front (k := 1) rfl
 obtain ⟨aF, q, ar, hs⟩ := hs.freezeB
 refine oV (x_funcL (vf := []) (vc := [pQ b7 0, pQ b3 0, pQ b5 0, pQ b1 0, pQ b9 0]) trivial ⟨S, U, T, D, R, trivial⟩) rfl ?_
 obtain ⟨M, am, hm⟩ := bS hm
 replace H := H.mono (((((((A.trans G).trans L).trans N).trans K).trans E).trans z).trans q); replace y := y.mono (((((((A.trans G).trans L).trans N).trans K).trans E).trans z).trans q); replace Y := Y.mono (((K.trans E).trans z).trans q); replace X := X.mono ((E.trans z).trans q); replace W := W.mono (z.trans q); replace V := V.mono q
 refine oC (fi := []) (vs := [iN e, iN d, .func (.func 119) #[] #[pQ b7 0, pQ b3 0, pQ b5 0, pQ b1 0, pQ b9 0]]) (ca := []) rfl ⟨rfl, rfl, rfl, trivial⟩ en87 (f87c_ok _ _ _ _ _ _ _ _ _ _ am hs Y y X W H V ar) ?_
 clear hs; rintro _ w ⟨aE, x, u, ai, hs, rfl⟩
 refine oS (k := 1) (vs := (rL2 M x u)) (cs' := (rL2 M x u)) hs rfl l rfl ty26 rfl rfl (nLe rfl) rfl rfl ?_
 clear hs; intro w hs
 refine asI rfl <| oN <| sK <| cw_ret <| rK (rs := [.cell 10 26, .tmp 11]) (vs := [.agg (rL2 M x u).toArray, iN 0]) (.inr rfl) rfl ⟨⟨_, true, _, (rL2 M x u), l, ty26, CA_blk (off := 0) (m := 3) (hs.blk (k := 1) rfl), rfl, rfl⟩, rfl, trivial⟩ ?_
 obtain rfl := oJ hm
 obtain ⟨az, ah, aq, hs⟩ := hs.freezeO
 replace hs := hs.erase 0
 exact ⟨az, x, u, (((((((((A.trans G).trans L).trans N).trans K).trans E).trans z).trans q).trans ai).trans ah), hs, rfl, aq⟩
def f48_m (p : Int) (o : Int) (b : List Int) (l : Int) (j : Int) (a : List Bool) : Option (Int × Int × List Int × Int) :=
  ((f82a_m p o b l j a (-1) (-2147483648)).bind fun q => some (q.1, q.2.1, q.2.2.1, q.2.2.2))
theorem f48_ok (p : Int) (o : Int) (b : List Int) (l : Int) (j : Int) (a : List Bool) {r : Int × Int × List Int × Int} (hm : f48_m p o b l j a = some r) {i : Option Addr} {f : Nat} {h : Option Addr} {e : Nat} {I : Im} {F : List HP} {w : World} (hs : Sat I (F) w) (t : Rs I 1 i b.length f (b.flatMap e64)) (s : Rs I 1 h a.length e (a.flatMap eB)) :
    CV P 48 [.agg (cL0 p o i b.length f).toArray, .agg (cL0 l j h a.length e).toArray] w fun v w' => ∃ (J : Im) (z : Option Addr) (y : Nat), Im.le I J ∧ Sat J (F) w' ∧ v = .tuple #[.agg (cL0 r.1 r.2.1 z r.2.2.1.length y).toArray, iN r.2.2.2] ∧ Rs J 1 z r.2.2.1.length y (r.2.2.1.flatMap e64) := by
 unfold f48_m at hm
 refine cv_of (n := 11) Proofs.Tryz.func48 rfl rfl (nLe rfl) <| cQ <| cR <| oB (v := .agg (cL0 p o i b.length f).toArray) (cs := (cL0 p o i b.length f)) hs rfl rfl ?_
 clear hs; intro D w hs
 refine oB (v := .agg (cL0 l j h a.length e).toArray) (cs := (cL0 l j h a.length e)) hs rfl rfl ?_
 clear hs; intro C w hs
 refine ow_alloc hs ty26 rfl ?_
 clear hs; intro B w hs
 refine asI rfl <| oN <| sQR <| cR <| oL (k := 2) (vs := (cL0 p o i b.length f)) (v := .agg (cL0 p o i b.length f).toArray) hs rfl rfl ty26 rfl rfl rfl <| oL (k := 1) (vs := (cL0 l j h a.length e)) (v := .agg (cL0 l j h a.length e).toArray) hs rfl rfl ty40 rfl rfl rfl ?_
 obtain ⟨q, x, hm⟩ := bS hm
 refine oC (fi := []) (vs := [.agg (cL0 p o i b.length f).toArray, .agg (cL0 l j h a.length e).toArray, iN (-1), iN (-2147483648), .func (.func 84) #[] #[]]) (ca := []) rfl ⟨rfl, rfl, rfl, rfl, rfl, trivial⟩ en82 (f82a_ok _ _ _ _ _ _ _ _ x hs t s) ?_
 clear hs; rintro _ w ⟨A, d, c, u, hs, rfl, hRz11_2⟩
 refine oV (xE (v := .agg (cL0 q.1 q.2.1 d q.2.2.1.length c).toArray) rfl rfl) rfl <| oV (xE (v := iN q.2.2.2) rfl rfl) rfl <| oS (k := 0) (vs := (cL0 q.1 q.2.1 d q.2.2.1.length c)) (cs' := (cL0 q.1 q.2.1 d q.2.2.1.length c)) hs rfl rfl rfl ty26 rfl rfl (nLe rfl) rfl rfl ?_
 clear hs; intro w hs
 refine asI rfl <| oN <| sK <| cw_ret <| rK (rs := [.cell 4 26, .tmp 5]) (vs := [.agg (cL0 q.1 q.2.1 d q.2.2.1.length c).toArray, iN q.2.2.2]) (.inr rfl) rfl ⟨⟨_, true, _, (cL0 q.1 q.2.1 d q.2.2.1.length c), rfl, ty26, CA_blk (off := 0) (m := 3) (hs.blk (k := 0) rfl), rfl, rfl⟩, rfl, trivial⟩ ?_
 obtain rfl := oJ hm
 replace hs := hs.erase 0
 replace hs := hs.erase 0
 replace hs := hs.erase 0
 exact ⟨A, d, c, u, hs, rfl, hRz11_2⟩
end Go.HL.Tz
