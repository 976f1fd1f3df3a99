/- The walks of some functions, printed by a program of ours (gox). -/
import Derived.Test.YtllfmfoahloldaaGreatZV
set_option linter.unusedVariables false
set_option linter.unusedSimpArgs false
set_option maxRecDepth 100000
set_option maxHeartbeats 400000
namespace Go.HL.Tz
open Go.HL
attribute [local irreducible] OW CW CV
theorem en6 : Proofs.Enters P 6 := Proofs.enters_of Proofs.Tryz.func6 (by kernel_rfl) rfl
theorem it21 : IntT P 21 .i32 := (by kernel_rfl : P.underlying 21 = some (.int .i32))
theorem it53 : IntT P 53 .u16 := (by kernel_rfl : P.underlying 53 = some (.int .u16))
theorem en11 : Proofs.Enters P 11 := Proofs.enters_of Proofs.Tryz.func11 (by kernel_rfl) rfl
theorem en12 : Proofs.Enters P 12 := Proofs.enters_of Proofs.Tryz.func12 (by kernel_rfl) rfl
theorem en10 : Proofs.Enters P 10 := Proofs.enters_of Proofs.Tryz.func10 (by kernel_rfl) rfl
def f4_l1 (x3 : Int) (x5 : List Int) (z : Int × Int × List Int) (R : Int) : Nat → Int → Int → (List Int) → Option (Int × List Int)
  | 0, _, _, _ => none
  | k + 1, aL, u, A => (if u < (w64 (z.1 * z.2.1)) then ((f11_m x5 (w64 ((w64 (R * (w64 (z.1 * z.2.1)))) + u))).bind fun aA => (if A.length + [aA].length ≤ 1099511627776 then (if 0 ≤ u ∧ u < ((A ++ [aA]).length : Int) then (if 0 ≤ u ∧ u < (z.2.2.length : Int) then (f4_l1 x3 x5 z R k (w64 (aL + (w64 ((at' (A ++ [aA]) u) * (max 0 (min (w64 ((at' z.2.2 u) + (w64 (x3)))) 255)))))) (w64 (u + 1)) (A ++ [aA])) else none) else none) else none)) else some (aL, A))
def f4_l0 (x3 : Int) (x4 : Int) (x5 : List Int) (x6 : List Int) (z : Int × Int × List Int) : Nat → Int → Int → (List Int) → (List (List Int)) → (List (List Int)) → (List (List Int)) → Option (Int × List Int × List (List Int) × List (List Int))
  | 0, _, _, _, _, _, _ => none
  | k + 1, aV, R, c, bR, t, ay => (if R < (w64 (1 + (w64 (Int.tmod x4 8)))) then (((f11_m x5 R).bind fun dW => ((f4_l1 x3 x5 z R FUEL dW 0 ([] : List Int)).bind fun (aG : Int × List Int) => (if ay.length + 1 ≤ 1099511627776 then ((f11_m x5 R).bind fun av => (if c.length + [av].length ≤ 1099511627776 then (if 0 ≤ (0 : Int) ∧ (0 : Int) < (t.length : Int) then ((f11_m x6 R).bind fun az => (if (at' t (0 : Int)).length + [az].length ≤ 1099511627776 then ((f11_m x6 R).bind fun el => some (w64 (aV + (w64 (el * (max 0 aG.1)))), c ++ [av], ay ++ [aG.2], t.set (0 : Int).toNat ((at' t (0 : Int)) ++ [az]))) else none)) else none) else none)) else none))).bind fun (aH : Int × List Int × List (List Int) × List (List Int)) => (f4_l0 x3 x4 x5 x6 z k aH.1 (w64 (R + 1)) aH.2.1 aH.2.2.1 aH.2.2.2 aH.2.2.1)) else some (aV, c, ay, t))
def f4_m (x0 : Int) (x1 : Int) (x2 : List Int) (x3 : Int) (x4 : Int) (x5 : List Int) (x6 : List Int) (x7 : Int) (x8 : Int) (x9 : Int) : Option Bool :=
  ((f6_m (w64 (1 + (w64 (Int.tmod x0 4)))) (w64 (1 + (w64 (Int.tmod x1 4)))) x2).bind fun z => ((f8_m z.1 z.2.1 1 ([(1, 0, 0, 1, w64 (x3), 1, 0, 255, 0, 0, 0, ([] : List Int), 0, 0, 0, ([] : List Bool))] : List (T2x)) 3 2 8192 z.1 z.2.1 z.2.2).bind fun G => (if (!G.2.2.2) = true then some false else ((f11_m x6 (w64 (1 + (w64 (Int.tmod x4 8))))).bind fun e1 => ((f4_l0 x3 x4 x5 x6 z FUEL e1 0 ([] : List Int) ([] : List (List Int)) ([[]] : List (List Int)) ([] : List (List Int))).bind fun (x : Int × List Int × List (List Int) × List (List Int)) => ((f11_m x6 (w64 (1 + (w64 (Int.tmod x4 8))))).bind fun ax => ((if (w64 ((w64 ((w64 (x7)) + 1)) + (w64 (x8)))) ≤ x.1 then some 1 else (if x.1 ≤ (w64 (x7)) then some 2 else some 3)).bind fun (bg : Int) => ((f12_m z.1 z.2.1 z.1 z.2.1 ([(x.2.2.1, x.2.1), (x.2.2.2, [ax])] : List (List (List Int) × List Int)) (w64 (x7)) (w64 ((w64 ((w64 (x7)) + 1)) + (w64 (x8)))) G.1 G.2.1 G.2.2.1).bind fun aO => ((f13_m z.1 z.2.1 z.1 z.2.1 ([(x.2.2.1, x.2.1), (x.2.2.2, [ax])] : List (List (List Int) × List Int)) (w64 (x7)) (w64 ((w64 ((w64 (x7)) + 1)) + (w64 (x8)))) G.1 G.2.1 G.2.2.1 G.1 G.2.1 G.2.2.1 (w64 (Int.tmod x9 9))).bind fun aY => ((if aO.2.2 = 0 then some (decide (aY.2 = 0)) else some false).bind fun c0 => ((if c0 = true then some (decide (aO.1 = x.1)) else some false).bind fun cZ => ((if cZ = true then some (decide (aO.2.1 = bg)) else some false).bind fun cY => ((if cY = true then some (decide (aY.1 = bg)) else some false).bind fun cX => ((if cX = true then ((f10_m ).bind fun dV => some dV) else some false).bind fun cW => some cW))))))))))))))
theorem f4_ok (x0 : Int) (x1 : Int) (x2 : List Int) (x3 : Int) (x4 : Int) (x5 : List Int) (x6 : List Int) (x7 : Int) (x8 : Int) (x9 : Int) {r : Bool} (hm : f4_m x0 x1 x2 x3 x4 x5 x6 x7 x8 x9 = some r) {e3 : Option Addr} {e2 : Nat} {cN : Option Addr} {cM : Nat} {ci : Option Addr} {ch : Nat} {I : Im} {F : List HP} {w : World} (hs : Sat I (F) w) (fq : Rs I 1 e3 x2.length e2 (x2.flatMap e8)) (cS : Rs I 1 cN x5.length cM (x5.flatMap enc28)) (cg : Rs I 1 ci x6.length ch (x6.flatMap enc28)) :
    CV P 4 (cL21 x0 x1 e3 x2.length e2 x3 x4 cN x5.length cM ci x6.length ch x7 x8 x9) w fun v w' => ∃ (J : Im), Im.le I J ∧ Sat J (F) w' ∧ v = .bool r := by
 unfold f4_m at hm
 refine cv_of (n := 234) Proofs.Tryz.func4 rfl rfl (nLe rfl) <| cQ <| cR <| asB rfl <| oN <| sQR <| cR <| mI rfl <| oV (x_rem rfl rfl (by decide)) rfl <| oV (x_conv (a := (Int.tmod x0 4)) it5 it3 rfl) rfl <| oV (x_add rfl rfl) rfl ?_
 refine mI rfl <| oV (x_rem rfl rfl (by decide)) rfl <| oV (x_conv (a := (Int.tmod x1 4)) it5 it3 rfl) rfl <| oV (x_add rfl rfl) rfl <| mS rfl ?_
 obtain ⟨z, fr, hm⟩ := bS hm
 refine oC (fi := []) (vs := (cL0 (w64 (1 + (w64 (Int.tmod x0 4)))) (w64 (1 + (w64 (Int.tmod x1 4)))) e3 x2.length e2)) (ca := []) rfl ⟨rfl, rfl, rfl, trivial⟩ en6 (f6_ok _ _ _ fr hs fq) ?_
 clear hs; rintro _ w ⟨J3, aC, aD, eh, hs, rfl, hRz5_2⟩
 refine ow_alloc hs ty26 rfl ?_
 clear hs; intro b6 w hs
 refine oS (k := 0) (vs := (rL2 z aC aD)) (cs' := (rL2 z aC aD)) hs rfl rfl rfl ty26 rfl rfl (nLe rfl) rfl rfl ?_
 clear hs; intro w hs
 refine oN <| sQR <| cR <| oF (b := b6) (o := 0) fl26_0 rfl <| ld1 (k := 0) hs rfl rfl ty3 rfl <| oF (b := b6) (o := 0) fl26_1 rfl <| ld1 (k := 0) hs rfl rfl ty3 rfl <| oF (b := b6) (o := 0) fl26_0 rfl <| ld1 (k := 0) hs rfl rfl ty3 rfl <| oF (b := b6) (o := 0) fl26_1 rfl <| ld1 (k := 0) hs rfl rfl ty3 rfl ?_
 refine mI rfl <| oV (x_conv (a := x7) it21 it3 rfl) rfl <| mI rfl <| oV (x_conv (a := x7) it21 it3 rfl) rfl <| oV (x_add rfl rfl) rfl <| mI rfl <| oV (x_conv (a := x8) it53 it3 rfl) rfl <| oV (x_add rfl rfl) rfl <| oU (vp := [(0, iN z.1), (1, iN z.2.1), (2, iN z.1), (3, iN z.2.1), (5, iN (w64 (x7))), (6, iN (w64 ((w64 ((w64 (x7)) + 1)) + (w64 (x8)))))]) (cs := (cL4 z.1 z.2.1 z.1 z.2.1 none 0 0 (w64 (x7)) (w64 ((w64 ((w64 (x7)) + 1)) + (w64 (x8)))))) st56 ty56 ⟨rfl, rfl, rfl, rfl, rfl, rfl, rfl, rfl, rfl, rfl, rfl, rfl, trivial⟩ rfl <| ow_alloc hs ty56 rfl ?_
 clear hs; intro b8 w hs
 refine oS (k := 0) (vs := (cL4 z.1 z.2.1 z.1 z.2.1 none 0 0 (w64 (x7)) (w64 ((w64 ((w64 (x7)) + 1)) + (w64 (x8)))))) (cs' := (cL4 z.1 z.2.1 z.1 z.2.1 none 0 0 (w64 (x7)) (w64 ((w64 ((w64 (x7)) + 1)) + (w64 (x8)))))) hs rfl rfl rfl ty56 rfl rfl (nLe rfl) rfl rfl ?_
 clear hs; intro w hs
 refine oN <| sQR <| cR <| oF (b := b6) (o := 0) fl26_0 rfl <| ld1 (k := 1) hs rfl rfl ty3 rfl <| oF (b := b6) (o := 0) fl26_1 rfl <| ld1 (k := 1) hs rfl rfl ty3 rfl <| mI rfl <| oV (x_conv (a := x3) it28 it3 rfl) rfl <| oU (vp := [(0, iN 1), (1, iN (w64 (x3))), (2, iN 1), (3, iN 0), (4, iN 255)]) (cs := (cL3 1 (w64 (x3)) 1 0 255)) st35 ty35 ⟨rfl, rfl, rfl, rfl, rfl, rfl, rfl, rfl, rfl, rfl, trivial⟩ rfl <| oU (vp := [(0, .int .u8 1), (3, .agg (cL3 1 (w64 (x3)) 1 0 255).toArray)]) (cs := (cL9 1 0 0 1 (w64 (x3)) 1 0 255 0 0 0 none 0 0 0 0 0 none 0 0)) st42 ty42 ⟨rfl, rfl, rfl, rfl, trivial⟩ rfl ?_
 refine ow_buildSlice (vp := [(0, .agg (cL9 1 0 0 1 (w64 (x3)) 1 0 255 0 0 0 none 0 0 0 0 0 none 0 0).toArray)]) (cs := (cL9 1 0 0 1 (w64 (x3)) 1 0 255 0 0 0 none 0 0 0 0 0 none 0 0)) hs sl31 ty42 rfl ⟨rfl, rfl, trivial⟩ (by decide) rfl (by decide) ?_
 clear hs; intro a6 fx w cG hs fm
 refine oU (vp := [(0, iN z.1), (1, iN z.2.1), (2, iN 1), (3, .slice a6 1 1)]) (cs := (cL8 z.1 z.2.1 1 a6 1 1)) st33 ty33 ⟨rfl, rfl, rfl, rfl, rfl, rfl, rfl, rfl, trivial⟩ rfl <| ow_alloc hs ty33 rfl ?_
 clear hs; intro bL w hs
 refine oS (k := 0) (vs := (cL8 z.1 z.2.1 1 a6 1 1)) (cs' := (cL8 z.1 z.2.1 1 a6 1 1)) hs rfl rfl rfl ty33 rfl rfl (nLe rfl) rfl rfl ?_
 clear hs; intro w hs
 refine oN <| sQR <| cR <| oL (k := 0) (vs := (cL8 z.1 z.2.1 1 a6 1 1)) (v := .agg (cL8 z.1 z.2.1 1 a6 1 1).toArray) hs rfl rfl ty33 rfl rfl rfl <| oU (vp := [(0, iN 3), (1, iN 2), (2, iN 8192)]) (cs := (cL1 3 2 8192)) st46 ty46 ⟨rfl, rfl, rfl, rfl, rfl, rfl, trivial⟩ rfl <| oL (k := 2) (vs := (rL2 z aC aD)) (v := .agg (rL2 z aC aD).toArray) hs rfl rfl ty26 rfl rfl rfl ?_
 obtain ⟨G, fl, hm⟩ := bS hm
 replace hRz5_2 := hRz5_2.mono cG
 refine oC (fi := []) (vs := [.agg (cL8 z.1 z.2.1 1 a6 1 1).toArray, .agg (cL1 3 2 8192).toArray, .agg (rL2 z aC aD).toArray]) (ca := []) rfl ⟨rfl, rfl, rfl, trivial⟩ en8 (f8_ok _ _ _ _ _ _ _ _ _ _ fl hs ⟨_, fm, (NL.one ⟨none, 0, none, 0, rfl, (Rs.nil _ _ _), (Rs.nil _ _ _)⟩)⟩ hRz5_2) ?_
 clear hs; rintro _ w ⟨ff, ak, aj, bU, hs, rfl, hRz20_2⟩
 refine oV (xM (v := .tuple #[.agg (cL0 G.1 G.2.1 ak G.2.2.1.length aj).toArray, .bool G.2.2.2]) rfl) rfl <| oV (xE (v := .agg (cL0 G.1 G.2.1 ak G.2.2.1.length aj).toArray) rfl rfl) rfl <| oV (xE (v := .bool G.2.2.2) rfl rfl) rfl <| ow_alloc hs ty26 rfl ?_
 clear hs; intro bd w hs
 refine oS (k := 0) (vs := (cL0 G.1 G.2.1 ak G.2.2.1.length aj)) (cs' := (cL0 G.1 G.2.1 ak G.2.2.1.length aj)) hs rfl rfl rfl ty26 rfl rfl (nLe rfl) rfl rfl ?_
 clear hs; intro w hs
 refine asB rfl <| oN <| sQR <| cQ <| cR <| mB rfl <| oV (x_not (b := G.2.2.2) rfl) rfl <| oN <| sK ?_
 by_cases ei : (!G.2.2.2) = true
 · rw [if_pos ei] at hm
   refine cIt rfl ei <| cQ <| cR <| asB rfl <| oN <| sK <| cw_ret <| seqK_r <| rK (rs := [.tmp 20]) (vs := [.bool false]) (.inr rfl) rfl ⟨rfl, trivial⟩ ?_
   obtain rfl := oJ hm
   replace hs := hs.erase 0
   replace hs := hs.erase 0
   replace hs := hs.erase 0
   replace hs := hs.erase 0
   exact ⟨ff, ((eh.trans cG).trans bU), hs, rfl⟩
 rw [if_neg ei] at hm
 refine cIf rfl (bF ei) <| cw_skip <| sQR ?_
 refine cD mixed rfl (fun f0 L f w => ∃ (Iq : Im), Im.le ff Iq ∧ f = frL [(87, 0, .int .u8 x4), (88, 1, .int .u8 (Int.tmod x4 8)), (89, 2, iN (w64 (Int.tmod x4 8))), (90, 3, iN (w64 (1 + (w64 (Int.tmod x4 8))))), (91, 4, pQ b6 0), (92, 5, iN z.1), (93, 6, pQ b6 1), (94, 7, iN z.2.1), (95, 8, iN (w64 (z.1 * z.2.1))), (26, 9, iN (w64 (1 + (w64 (Int.tmod x4 8))))), (27, 10, iN (w64 (z.1 * z.2.1)))] L f0 ∧ Sat Iq (blk bd 26 (cL0 G.1 G.2.1 ak G.2.2.1.length aj) :: blk bL 33 (cL8 z.1 z.2.1 1 a6 1 1) :: blk b8 56 (cL4 z.1 z.2.1 z.1 z.2.1 none 0 0 (w64 (x7)) (w64 ((w64 ((w64 (x7)) + 1)) + (w64 (x8))))) :: blk b6 26 (rL2 z aC aD) :: F) w) ⟨ff, iR, (frL_ff _).symm, hs.drew⟩ ⟨?_, ?_, ?_, ?_, ?_, ?_, ?_, ?_, ?_, ?_, ?_, trivial⟩ ?_
 all_goals clear hs
 · rintro L f w _ hL ⟨Iq, l, rfl, hs⟩
   refine mI rfl ?_
   exact oN ⟨rfl, rfl, Iq, l, fS rfl rfl, hs⟩
 · rintro L f w ⟨bA, _⟩ hL ⟨Iq, l, rfl, hs⟩
   refine oV (x_rem (fG rfl bA) rfl (by decide)) rfl ?_
   exact oN ⟨rfl, rfl, Iq, l, fS rfl rfl, hs⟩
 · rintro L f w ⟨bz, _⟩ hL ⟨Iq, l, rfl, hs⟩
   refine oV (x_conv (a := (Int.tmod x4 8)) it5 it3 (fG rfl bz)) rfl ?_
   exact oN ⟨rfl, rfl, Iq, l, fS rfl rfl, hs⟩
 · rintro L f w ⟨bH, _⟩ hL ⟨Iq, l, rfl, hs⟩
   refine oV (x_add rfl (fG rfl bH)) rfl ?_
   exact oN ⟨rfl, rfl, Iq, l, fS rfl rfl, hs⟩
 · rintro L f w _ hL ⟨Iq, l, rfl, hs⟩
   refine oF (b := b6) (o := 0) fl26_0 rfl ?_
   exact oN ⟨rfl, rfl, Iq, l, fS rfl rfl, hs⟩
 · rintro L f w ⟨bf, _⟩ hL ⟨Iq, l, rfl, hs⟩
   refine ld1 (k := 3) hs rfl (fG rfl bf) ty3 rfl ?_
   exact oN ⟨rfl, rfl, Iq, l, fS rfl rfl, hs⟩
 · rintro L f w _ hL ⟨Iq, l, rfl, hs⟩
   refine oF (b := b6) (o := 0) fl26_1 rfl ?_
   exact oN ⟨rfl, rfl, Iq, l, fS rfl rfl, hs⟩
 · rintro L f w ⟨bw, _⟩ hL ⟨Iq, l, rfl, hs⟩
   refine ld1 (k := 3) hs rfl (fG rfl bw) ty3 rfl ?_
   exact oN ⟨rfl, rfl, Iq, l, fS rfl rfl, hs⟩
 · rintro L f w ⟨bG, bW, _⟩ hL ⟨Iq, l, rfl, hs⟩
   refine oV (x_mul (fG rfl bG) (fG rfl bW)) rfl ?_
   exact oN ⟨rfl, rfl, Iq, l, fS rfl rfl, hs⟩
 · rintro L f w ⟨bc, bA, bz, bH, _, _⟩ hL ⟨Iq, l, rfl, hs⟩
   refine asI (fG rfl bc) ?_
   exact oN ⟨rfl, rfl, Iq, l, fS rfl rfl, hs⟩
 · rintro L f w ⟨bV, bv, bA, bz, bH, bc, bf, bG, bw, bW, _, _, _⟩ hL ⟨Iq, l, rfl, hs⟩
   refine asI (fG rfl bV) ?_
   exact oN ⟨rfl, rfl, Iq, l, fS rfl rfl, hs⟩
 rintro L f w hall ⟨fy, bT, rfl, hs⟩
 rw [frL_tt _ rfl hall]
 refine sQR <| cR <| oU (vp := []) (cs := [.slice none 0 0, .slice none 0 0]) st59 ty59 trivial rfl <| ow_buildSliceO (vp := [(0, .slice none 0 0)]) (cs := [.slice none 0 0]) hs sl57 ty24 rfl ⟨rfl, rfl, trivial⟩ (by decide) rfl (by decide) ?_
 clear hs; intro aw w hs
 replace hs := hs.rowsOne
 refine oU (vp := [(0, .slice aw 1 1)]) (cs := [.slice aw 1 1, .slice none 0 0]) st59 ty59 ⟨rfl, rfl, trivial⟩ rfl <| ow_alloc hs ty59 rfl ?_
 clear hs; intro aB w hs
 refine ow_alloc hs ty59 rfl ?_
 clear hs; intro aZ w hs
 refine oS (k := 1) (vs := [.slice none 0 0, .slice none 0 0]) (cs' := [.slice none 0 0, .slice none 0 0]) hs rfl rfl rfl ty59 rfl rfl (nLe rfl) rfl rfl ?_
 clear hs; intro w hs
 replace hs := hs.rowsNil
 refine oS (k := 1) (vs := [.slice aw 1 1, .slice none 0 0]) (cs' := [.slice aw 1 1, .slice none 0 0]) hs rfl rfl rfl ty59 rfl rfl (nLe rfl) rfl rfl ?_
 clear hs; intro w hs
 refine oN <| sQR <| cR <| mS rfl <| mI rfl ?_
 obtain ⟨e1, fk, hm⟩ := bS hm
 replace cg := cg.mono (((eh.trans cG).trans bU).trans bT)
 refine oC (fi := []) (vs := [.slice ci x6.length ch, iN (w64 (1 + (w64 (Int.tmod x4 8))))]) (ca := []) rfl ⟨rfl, rfl, trivial⟩ en11 (f11_ok _ _ fk hs cg) ?_
 clear hs; rintro _ w ⟨fe, bu, hs, rfl⟩
 refine asI rfl <| oN <| sK ?_
 replace hs := hs.pushNil 3 1
 obtain ⟨x, cy, eR⟩ := bS hm
 replace hm := cy; clear cy
 refine cJ (fun f ds w => ∃ (e : Option Addr) (d : Nat) (s : Option Addr) (m : Nat) (q : Nat) (aI : List Rh) (B : List Rh) (eb : Im), ds = [] ∧ Im.le fe eb ∧ Sat eb (osl 3 1 e x.2.1.length d (x.2.1.flatMap e64) :: rowsP s m q aI x.2.2.1 :: blk aZ 59 [.slice aw 1 1, .slice none 0 0] :: blk aB 59 [.slice s m q, .slice e x.2.1.length d] :: rowsP aw 1 1 B x.2.2.2 :: blk bd 26 (cL0 G.1 G.2.1 ak G.2.2.1.length aj) :: blk bL 33 (cL8 z.1 z.2.1 1 a6 1 1) :: blk b8 56 (cL4 z.1 z.2.1 z.1 z.2.1 none 0 0 (w64 (x7)) (w64 ((w64 ((w64 (x7)) + 1)) + (w64 (x8))))) :: blk b6 26 (rL2 z aC aD) :: F) w ∧ f 6 = .slice ci x6.length ch ∧ f 9 = .int .u8 x9 ∧ f 20 = .bool false ∧ f 22 = pQ b8 0 ∧ f 24 = pQ bd 0 ∧ f 26 = iN (w64 (1 + (w64 (Int.tmod x4 8)))) ∧ f 28 = pQ aB 0 ∧ f 29 = pQ aZ 0 ∧ f 30 = iN x.1) ?_ ?_
 · refine cQ <| cR <| asI rfl <| oN <| sK <| cw_block ?_
   refine cL (S := fun k f ds w => ∃ (aV : Int) (R : Int) (c : List Int) (bR : List (List Int)) (t : List (List Int)) (ay : List (List Int)), ∃ (e : Option Addr) (d : Nat) (s : Option Addr) (m : Nat) (q : Nat) (aI : List Rh) (B : List Rh) (aF : List Rh) (cK : Im), ds = [] ∧ Im.le fe cK ∧ f4_l0 x3 x4 x5 x6 z k aV R c bR t ay = some x ∧ Sat cK (osl 3 1 e c.length d (c.flatMap e64) :: rowsP s m q aF ay :: blk aZ 59 [.slice aw 1 1, .slice none 0 0] :: blk aB 59 [.slice s m q, .slice e c.length d] :: rowsP aw 1 1 B t :: blk bd 26 (cL0 G.1 G.2.1 ak G.2.2.1.length aj) :: blk bL 33 (cL8 z.1 z.2.1 1 a6 1 1) :: blk b8 56 (cL4 z.1 z.2.1 z.1 z.2.1 none 0 0 (w64 (x7)) (w64 ((w64 ((w64 (x7)) + 1)) + (w64 (x8))))) :: blk b6 26 (rL2 z aC aD) :: F) w ∧ f 3 = .int .i8 x3 ∧ f 5 = .slice cN x5.length cM ∧ f 6 = .slice ci x6.length ch ∧ f 9 = .int .u8 x9 ∧ f 20 = .bool false ∧ f 21 = pQ b6 0 ∧ f 22 = pQ b8 0 ∧ f 24 = pQ bd 0 ∧ f 26 = iN (w64 (1 + (w64 (Int.tmod x4 8)))) ∧ f 27 = iN (w64 (z.1 * z.2.1)) ∧ f 28 = pQ aB 0 ∧ f 29 = pQ aZ 0 ∧ f 30 = iN aV ∧ f 31 = iN R) ?_ (k := FUEL) ⟨e1, 0, ([] : List Int), ([] : List (List Int)), ([[]] : List (List Int)), ([] : List (List Int)), none, 0, none, 0, 0, [], [(none, 0)], [], fe, rfl, iR, hm, hs, rfl, rfl, rfl, rfl, rfl, rfl, rfl, rfl, rfl, rfl, rfl, rfl, rfl, rfl⟩
   clear hm hs
   rintro k f ds w ⟨aV, R, c, bR, t, ay, e, d, s, m, q, aI, B, aF, cK, rfl, a5, hm, hs, eE, eg, ef, ed, dN, en, dH, dC, cw, em, dr, dm, dj, cv⟩
   rcases k with _ | k
   · unfold f4_l0 at hm; cases hm
   unfold f4_l0 at hm
   refine cQ <| cQ <| cR <| mI cv <| mI cw <| oV (x_lss rfl rfl) rfl <| oN <| sK ?_
   by_cases cp : R < (w64 (1 + (w64 (Int.tmod x4 8))))
   · rw [if_pos cp] at hm
     refine cIt rfl (dT cp) <| cw_skip <| sK ?_
     obtain ⟨aH, cy, eQ⟩ := bS hm
     replace hm := cy; clear cy
     refine cJ (fun f ds w => ∃ (e : Option Addr) (d : Nat) (s : Option Addr) (m : Nat) (q : Nat) (aI : List Rh) (B : List Rh) (c5 : Im), ds = [] ∧ Im.le cK c5 ∧ Sat c5 (osl 3 1 e aH.2.1.length d (aH.2.1.flatMap e64) :: rowsP s m q aI aH.2.2.1 :: blk aZ 59 [.slice aw 1 1, .slice none 0 0] :: blk aB 59 [.slice s m q, .slice e aH.2.1.length d] :: rowsP aw 1 1 B aH.2.2.2 :: blk bd 26 (cL0 G.1 G.2.1 ak G.2.2.1.length aj) :: blk bL 33 (cL8 z.1 z.2.1 1 a6 1 1) :: blk b8 56 (cL4 z.1 z.2.1 z.1 z.2.1 none 0 0 (w64 (x7)) (w64 ((w64 ((w64 (x7)) + 1)) + (w64 (x8))))) :: blk b6 26 (rL2 z aC aD) :: F) w ∧ f 3 = .int .i8 x3 ∧ f 5 = .slice cN x5.length cM ∧ f 6 = .slice ci x6.length ch ∧ f 9 = .int .u8 x9 ∧ f 20 = .bool false ∧ f 21 = pQ b6 0 ∧ f 22 = pQ b8 0 ∧ f 24 = pQ bd 0 ∧ f 26 = iN (w64 (1 + (w64 (Int.tmod x4 8)))) ∧ f 27 = iN (w64 (z.1 * z.2.1)) ∧ f 28 = pQ aB 0 ∧ f 29 = pQ aZ 0 ∧ f 30 = iN aH.1 ∧ f 31 = iN R) ?_ ?_
     · refine cw_block <| cQ <| cR <| asS rfl <| oN <| sQR <| cR <| mS eg <| mI cv ?_
       obtain ⟨dW, eN, hm⟩ := bS hm
       replace cS := cS.mono (((((eh.trans cG).trans bU).trans bT).trans bu).trans a5)
       refine oC (fi := []) (vs := [.slice cN x5.length cM, iN R]) (ca := []) rfl ⟨rfl, rfl, trivial⟩ en11 (f11_ok _ _ eN hs cS) ?_
       clear hs; rintro _ w ⟨d8, a4, hs, rfl⟩
       refine asI rfl <| oN <| sK ?_
       replace hs := hs.pushNil 3 1
       obtain ⟨aG, cy, eP⟩ := bS hm
       replace hm := cy; clear cy
       refine cJ (fun f ds w => ∃ (am : Option Addr) (al : Nat) (cI : Im), ds = [] ∧ Im.le d8 cI ∧ Sat cI (osl 3 1 am aG.2.length al (aG.2.flatMap e64) :: osl 3 1 e c.length d (c.flatMap e64) :: rowsP s m q aF ay :: blk aZ 59 [.slice aw 1 1, .slice none 0 0] :: blk aB 59 [.slice s m q, .slice e c.length d] :: rowsP aw 1 1 B t :: blk bd 26 (cL0 G.1 G.2.1 ak G.2.2.1.length aj) :: blk bL 33 (cL8 z.1 z.2.1 1 a6 1 1) :: blk b8 56 (cL4 z.1 z.2.1 z.1 z.2.1 none 0 0 (w64 (x7)) (w64 ((w64 ((w64 (x7)) + 1)) + (w64 (x8))))) :: blk b6 26 (rL2 z aC aD) :: F) w ∧ f 3 = .int .i8 x3 ∧ f 5 = .slice cN x5.length cM ∧ f 6 = .slice ci x6.length ch ∧ f 9 = .int .u8 x9 ∧ f 20 = .bool false ∧ f 21 = pQ b6 0 ∧ f 22 = pQ b8 0 ∧ f 24 = pQ bd 0 ∧ f 26 = iN (w64 (1 + (w64 (Int.tmod x4 8)))) ∧ f 27 = iN (w64 (z.1 * z.2.1)) ∧ f 28 = pQ aB 0 ∧ f 29 = pQ aZ 0 ∧ f 30 = iN aV ∧ f 31 = iN R ∧ f 32 = .slice am aG.2.length al ∧ f 33 = iN aG.1) ?_ ?_
       · refine cQ <| cR <| asI rfl <| oN <| sK <| cw_block ?_
         refine cL (S := fun k f ds w => ∃ (aL : Int) (u : Int) (A : List Int), ∃ (am : Option Addr) (al : Nat) (c4 : Im), ds = [] ∧ Im.le d8 c4 ∧ f4_l1 x3 x5 z R k aL u A = some aG ∧ Sat c4 (osl 3 1 am A.length al (A.flatMap e64) :: osl 3 1 e c.length d (c.flatMap e64) :: rowsP s m q aF ay :: blk aZ 59 [.slice aw 1 1, .slice none 0 0] :: blk aB 59 [.slice s m q, .slice e c.length d] :: rowsP aw 1 1 B t :: blk bd 26 (cL0 G.1 G.2.1 ak G.2.2.1.length aj) :: blk bL 33 (cL8 z.1 z.2.1 1 a6 1 1) :: blk b8 56 (cL4 z.1 z.2.1 z.1 z.2.1 none 0 0 (w64 (x7)) (w64 ((w64 ((w64 (x7)) + 1)) + (w64 (x8))))) :: blk b6 26 (rL2 z aC aD) :: F) w ∧ f 3 = .int .i8 x3 ∧ f 5 = .slice cN x5.length cM ∧ f 6 = .slice ci x6.length ch ∧ f 9 = .int .u8 x9 ∧ f 20 = .bool false ∧ f 21 = pQ b6 0 ∧ f 22 = pQ b8 0 ∧ f 24 = pQ bd 0 ∧ f 26 = iN (w64 (1 + (w64 (Int.tmod x4 8)))) ∧ f 27 = iN (w64 (z.1 * z.2.1)) ∧ f 28 = pQ aB 0 ∧ f 29 = pQ aZ 0 ∧ f 30 = iN aV ∧ f 31 = iN R ∧ f 32 = .slice am A.length al ∧ f 33 = iN aL ∧ f 34 = iN u) ?_ (k := FUEL) ⟨dW, 0, ([] : List Int), none, 0, d8, rfl, iR, hm, hs, eE, eg, ef, ed, dN, en, dH, dC, cw, em, dr, dm, dj, cv, rfl, rfl, rfl⟩
         clear hm hs
         rintro k f ds w ⟨aL, u, A, am, al, c4, rfl, bt, hm, hs, cU, cT, ee, ec, dM, cx, dG, dB, dy, bM, dq, dl, di, cu, dd, db, bj⟩
         rcases k with _ | k
         · unfold f4_l1 at hm; cases hm
         unfold f4_l1 at hm
         refine cQ <| cQ <| cR <| mI bj <| mI bM <| oV (x_lss rfl rfl) rfl <| oN <| sK ?_
         by_cases co : u < (w64 (z.1 * z.2.1))
         · rw [if_pos co] at hm
           refine cIt rfl (dT co) <| cw_skip <| sQR <| cw_block <| cQ <| cR <| mS dd <| mS cT <| mI cu <| mI bM <| oV (x_mul rfl rfl) rfl ?_
           refine mI bj <| oV (x_add rfl rfl) rfl ?_
           obtain ⟨aA, eM, hm⟩ := bS hm
           replace cS := cS.mono (a4.trans bt)
           refine oC (fi := []) (vs := [.slice cN x5.length cM, iN (w64 ((w64 (R * (w64 (z.1 * z.2.1)))) + u))]) (ca := []) rfl ⟨rfl, rfl, trivial⟩ en11 (f11_ok _ _ eM hs cS) ?_
           clear hs; rintro _ w ⟨fv, cF, hs, rfl⟩
           refine ow_buildSlice (vp := [(0, iN aA)]) (cs := [iN aA]) hs sl24 ty3 rfl ⟨rfl, rfl, trivial⟩ (by decide) rfl (by decide) ?_
           clear hs; intro e4 d7 w cE hs cV
           replace cV : Rs d7 1 e4 [aA].length 1 ([aA].flatMap e64) := cV
           have eX := (iS hm).1
           replace hm := (iS hm).2
           refine ow_appendT (k := 0) (enc := e64) (X := A) (Y := [aA]) hs rfl sl24 ty3 el3 rfl rfl rfl cV (fun _ => rfl) eX (by decide) ?_
           clear hs; intro c1 d5 w hs
           refine asS rfl <| oN <| sK ?_
           have bQ := (iS hm).1
           replace hm := (iS hm).2
           have bP := (iS hm).1
           replace hm := (iS hm).2
           refine cD mixed rfl (fun f0 L f w => ∃ (Iq : Im), Im.le d7 Iq ∧ f = frL [(125, 0, iN aL), (126, 1, .slice c1 ((A ++ [aA]).length) d5), (127, 2, iN u), (128, 3, .pointer (some (ea c1 (u.toNat * 1)))), (129, 4, iN (at' (A ++ [aA]) u)), (130, 5, pQ b6 2), (131, 6, .slice aC z.2.2.length aD), (132, 7, iN u), (133, 8, .pointer (some (ea aC (u.toNat * 1)))), (134, 9, iN (at' z.2.2 u)), (135, 10, .int .i8 x3), (136, 11, iN (w64 (x3))), (137, 12, iN (w64 ((at' z.2.2 u) + (w64 (x3))))), (138, 13, iN (min (w64 ((at' z.2.2 u) + (w64 (x3)))) 255)), (139, 14, iN (max 0 (min (w64 ((at' z.2.2 u) + (w64 (x3)))) 255))), (140, 15, iN (w64 ((at' (A ++ [aA]) u) * (max 0 (min (w64 ((at' z.2.2 u) + (w64 (x3)))) 255))))), (141, 16, iN (w64 (aL + (w64 ((at' (A ++ [aA]) u) * (max 0 (min (w64 ((at' z.2.2 u) + (w64 (x3)))) 255))))))), (33, 17, iN (w64 (aL + (w64 ((at' (A ++ [aA]) u) * (max 0 (min (w64 ((at' z.2.2 u) + (w64 (x3)))) 255)))))))] L f0 ∧ Sat Iq (osl 3 1 c1 (A ++ [aA]).length d5 ((A ++ [aA]).flatMap e64) :: osl 3 1 e c.length d (c.flatMap e64) :: rowsP s m q aF ay :: blk aZ 59 [.slice aw 1 1, .slice none 0 0] :: blk aB 59 [.slice s m q, .slice e c.length d] :: rowsP aw 1 1 B t :: blk bd 26 (cL0 G.1 G.2.1 ak G.2.2.1.length aj) :: blk bL 33 (cL8 z.1 z.2.1 1 a6 1 1) :: blk b8 56 (cL4 z.1 z.2.1 z.1 z.2.1 none 0 0 (w64 (x7)) (w64 ((w64 ((w64 (x7)) + 1)) + (w64 (x8))))) :: blk b6 26 (rL2 z aC aD) :: F) w ∧ (L 17 = true → L 0 = true)) ⟨d7, iR, (frL_ff _).symm, hs.drew, (fun h => by cases h)⟩ ⟨?_, ?_, ?_, ?_, ?_, ?_, ?_, ?_, ?_, ?_, ?_, ?_, ?_, ?_, ?_, ?_, ?_, ?_, trivial⟩ ?_
           all_goals clear hs
           · rintro L f w _ hL ⟨Iq, l, rfl, hs, Q⟩
             refine mI ((frL_old (j := 17) rfl (show L 17 = false from pF Q hL)).trans db) ?_
             exact oN ⟨rfl, rfl, Iq, l, fS rfl rfl, hs, (fun _ => rfl)⟩
           · rintro L f w _ hL ⟨Iq, l, rfl, hs, Q⟩
             refine mS rfl ?_
             exact oN ⟨rfl, rfl, Iq, l, fS rfl rfl, hs, Q⟩
           · rintro L f w _ hL ⟨Iq, l, rfl, hs, Q⟩
             refine mI bj ?_
             exact oN ⟨rfl, rfl, Iq, l, fS rfl rfl, hs, Q⟩
           · rintro L f w ⟨bz, bH, _⟩ hL ⟨Iq, l, rfl, hs, Q⟩
             refine oI (i := u) sl24 ty3 (fG rfl bz) (fG rfl bH) bQ.1 bQ.2 (osl_some hs (k := 0) rfl (by have := bQ; omega)) ?_
             exact oN ⟨rfl, rfl, Iq, l, fS rfl rfl, hs, Q⟩
           · rintro L f w ⟨bc, _⟩ hL ⟨Iq, l, rfl, hs, Q⟩
             refine ow_loadO (k := 0) (p := u.toNat * 1) (vs := [iN (at' (A ++ [aA]) u)]) (v := iN (at' (A ++ [aA]) u)) hs rfl (fG rfl bc) ty3 (flat_at (enc := e64) (sz := 1) (fun _ => rfl) (A ++ [aA]) u bQ.1 bQ.2 0 1 (by decide)) rfl rfl ?_
             exact oN ⟨rfl, rfl, Iq, l, fS rfl rfl, hs, Q⟩
           · rintro L f w _ hL ⟨Iq, l, rfl, hs, Q⟩
             refine oF (b := b6) (o := 0) fl26_2 cx ?_
             exact oN ⟨rfl, rfl, Iq, l, fS rfl rfl, hs, Q⟩
           · rintro L f w ⟨bG, _⟩ hL ⟨Iq, l, rfl, hs, Q⟩
             refine ld1 (k := 9) hs rfl (fG rfl bG) ty24 rfl ?_
             exact oN ⟨rfl, rfl, Iq, l, fS rfl rfl, hs, Q⟩
           · rintro L f w _ hL ⟨Iq, l, rfl, hs, Q⟩
             refine mI bj ?_
             exact oN ⟨rfl, rfl, Iq, l, fS rfl rfl, hs, Q⟩
           · rintro L f w ⟨bw, bW, _⟩ hL ⟨Iq, l, rfl, hs, Q⟩
             replace hRz5_2 := hRz5_2.mono ((((((((bU.trans bT).trans bu).trans a5).trans a4).trans bt).trans cF).trans cE).trans l)
             refine oI (i := u) sl24 ty3 (fG rfl bw) (fG rfl bW) bP.1 bP.2 (Rs.some hRz5_2 (by have := bP; omega)) ?_
             exact oN ⟨rfl, rfl, Iq, l, fS rfl rfl, hs, Q⟩
           · rintro L f w ⟨bV, _⟩ hL ⟨Iq, l, rfl, hs, Q⟩
             replace hRz5_2 := hRz5_2.mono ((((((((bU.trans bT).trans bu).trans a5).trans a4).trans bt).trans cF).trans cE).trans l)
             refine oLR (p := u.toNat * 1) (vs := [iN (at' z.2.2 u)]) (v := iN (at' z.2.2 u)) hs hRz5_2 (fG rfl bV) ty3 (flat_at (enc := e64) (sz := 1) (fun _ => rfl) z.2.2 u bP.1 bP.2 0 1 (by decide)) rfl rfl ?_
             exact oN ⟨rfl, rfl, Iq, l, fS rfl rfl, hs, Q⟩
           · rintro L f w _ hL ⟨Iq, l, rfl, hs, Q⟩
             refine mI cU ?_
             exact oN ⟨rfl, rfl, Iq, l, fS rfl rfl, hs, Q⟩
           · rintro L f w ⟨a0, _⟩ hL ⟨Iq, l, rfl, hs, Q⟩
             refine oV (x_conv (a := x3) it28 it3 (fG rfl a0)) rfl ?_
             exact oN ⟨rfl, rfl, Iq, l, fS rfl rfl, hs, Q⟩
           · rintro L f w ⟨bv, bx, _⟩ hL ⟨Iq, l, rfl, hs, Q⟩
             refine oV (x_add (fG rfl bv) (fG rfl bx)) rfl ?_
             exact oN ⟨rfl, rfl, Iq, l, fS rfl rfl, hs, Q⟩
           · rintro L f w ⟨cP, _⟩ hL ⟨Iq, l, rfl, hs, Q⟩
             refine oV (x_min2 (k := .i64) (a := (w64 ((at' z.2.2 u) + (w64 (x3))))) (b := 255) (fG rfl cP) rfl) rfl ?_
             exact oN ⟨rfl, rfl, Iq, l, fS rfl rfl, hs, Q⟩
           · rintro L f w ⟨cO, _⟩ hL ⟨Iq, l, rfl, hs, Q⟩
             refine oV (x_max2 (k := .i64) (a := 0) (b := (min (w64 ((at' z.2.2 u) + (w64 (x3)))) 255)) rfl (fG rfl cO)) rfl ?_
             exact oN ⟨rfl, rfl, Iq, l, fS rfl rfl, hs, Q⟩
           · rintro L f w ⟨bf, ej, _⟩ hL ⟨Iq, l, rfl, hs, Q⟩
             refine oV (x_mul (fG rfl bf) (fG rfl ej)) rfl ?_
             exact oN ⟨rfl, rfl, Iq, l, fS rfl rfl, hs, Q⟩
           · rintro L f w ⟨bA, eZ, _⟩ hL ⟨Iq, l, rfl, hs, Q⟩
             refine oV (x_add (fG rfl bA) (fG rfl eZ)) rfl ?_
             exact oN ⟨rfl, rfl, Iq, l, fS rfl rfl, hs, Q⟩
           · rintro L f w ⟨fn, bA, bz, bH, bc, bf, bG, bw, bW, bV, bv, a0, bx, cP, cO, ej, eZ, _, _⟩ hL ⟨Iq, l, rfl, hs, Q⟩
             refine asI (fG rfl fn) ?_
             exact oN ⟨rfl, rfl, Iq, l, fS rfl rfl, hs, (fun _ => bA)⟩
           rintro L f w hall ⟨fg, ez, rfl, hs, _⟩
           rw [frL_tt _ rfl hall]
           refine blockK_n <| sK <| cR <| mI bj <| oV (x_add rfl rfl) rfl <| asI rfl <| oN ?_
           exact lN ⟨k, Nat.lt_succ_self k, w64 (aL + (w64 ((at' (A ++ [aA]) u) * (max 0 (min (w64 ((at' z.2.2 u) + (w64 (x3)))) 255))))), w64 (u + 1), A ++ [aA], c1, d5, fg, rfl, (((bt.trans cF).trans cE).trans ez), hm, hs, cU, cT, ee, ec, dM, cx, dG, dB, dy, bM, dq, dl, di, cu, rfl, rfl, rfl⟩
         rw [if_neg co] at hm
         refine cIf rfl (dF co) <| cw_exit <| seqK_x <| loopK_x <| blockK_hit ?_
         obtain rfl := oJ hm
         refine jN ⟨am, al, c4, rfl, bt, hs, cU, cT, ee, ec, dM, cx, dG, dB, dy, bM, dq, dl, di, cu, dd, db⟩
       clear hm hs
       rintro f ds w ⟨am, al, cI, rfl, bO, hs, d3, ct, bJ, dY, dK, dI, dD, dz, dv, dt, aX, bk, df, a7, dc, da⟩
       replace hm := eP
       refine cQ ?_
       have eW := (iS hm).1
       replace hm := (iS hm).2
       obtain ⟨av, eL, hm⟩ := bS hm
       have eV := (iS hm).1
       replace hm := (iS hm).2
       refine cD mixed rfl (fun f0 L f w => ∃ (ai : Option Addr) (D : Option Addr) (C : Nat) (ah : Option Addr) (N : Option Addr) (M : Nat) (Iq : Im), Im.le cI Iq ∧ f = frL [(142, 0, pQ aB 0), (143, 1, .slice s m q), (144, 2, .slice am aG.2.length al), (145, 3, .slice ai 1 1), (146, 4, .slice D (m + 1) C), (147, 5, pQ aB 1), (148, 6, .slice e c.length d), (149, 7, .slice cN x5.length cM), (150, 8, iN R), (151, 9, iN av), (152, 10, .slice ah ([av].length) 1), (153, 11, .slice N ((c ++ [av]).length) M), (154, 12, pQ aB 0), (155, 14, pQ aB 1)] L f0 ∧ Sat Iq (rL [(4, emp)] (osl 3 1 am aG.2.length al (aG.2.flatMap e64)) L :: rL [(11, osl 3 1 N (c ++ [av]).length M ((c ++ [av]).flatMap e64))] (osl 3 1 e c.length d (c.flatMap e64)) L :: rL [(4, rowsP D (m + 1) C (aF ++ [(am, al)]) (ay ++ [aG.2]))] (rowsP s m q aF ay) L :: blk aZ 59 [.slice aw 1 1, .slice none 0 0] :: rL [(15, blk aB 59 [.slice D (m + 1) C, .slice N ((c ++ [av]).length) M]), (13, blk aB 59 [.slice D (m + 1) C, .slice e c.length d])] (blk aB 59 [.slice s m q, .slice e c.length d]) L :: rowsP aw 1 1 B t :: blk bd 26 (cL0 G.1 G.2.1 ak G.2.2.1.length aj) :: blk bL 33 (cL8 z.1 z.2.1 1 a6 1 1) :: blk b8 56 (cL4 z.1 z.2.1 z.1 z.2.1 none 0 0 (w64 (x7)) (w64 ((w64 ((w64 (x7)) + 1)) + (w64 (x8))))) :: blk b6 26 (rL2 z aC aD) :: F) w ∧ (L 3 = true → Rs Iq 1 ai 1 1 [.slice am aG.2.length al]) ∧ (L 10 = true → Rs Iq 1 ah [av].length 1 ([av].flatMap e64)) ∧ (L 15 = true → L 1 = true) ∧ (L 13 = true → L 1 = true) ∧ (L 15 = true → L 4 = true) ∧ (L 13 = true → L 4 = true) ∧ (L 15 = true → L 6 = true) ∧ (L 13 = true → L 6 = true) ∧ (L 15 = true → L 11 = true) ∧ (L 15 = true → L 13 = true) ∧ (L 4 = true → L 3 = true) ∧ (L 9 = true → L 3 = true) ∧ (L 10 = true → L 3 = true) ∧ (L 11 = true → L 10 = true)) ⟨none, none, 0, none, none, 0, cI, iR, (frL_ff _).symm, hs.drew, (fun h => by cases h), (fun h => by cases h), (fun h => by cases h), (fun h => by cases h), (fun h => by cases h), (fun h => by cases h), (fun h => by cases h), (fun h => by cases h), (fun h => by cases h), (fun h => by cases h), (fun h => by cases h), (fun h => by cases h), (fun h => by cases h), (fun h => by cases h)⟩ ⟨?_, ?_, ?_, ?_, ?_, ?_, ?_, ?_, ?_, ?_, ?_, ?_, ?_, ?_, ?_, ?_, trivial⟩ ?_
       all_goals clear hs
       · rintro L f w _ hL ⟨ai, D, C, ah, N, M, Iq, l, rfl, hs, y, E, Z, ac, W, ab, V, aa, K, H, aq, ap, ae, O⟩
         refine oF (b := aB) (o := 0) fl59_0 aX ?_
         exact oN ⟨rfl, rfl, ai, D, C, ah, N, M, Iq, l, fS rfl rfl, hs, (fun h => y h), (fun h => E h), Z, ac, W, ab, V, aa, K, H, aq, ap, ae, O⟩
       · rintro L f w ⟨bA, _⟩ hL ⟨ai, D, C, ah, N, M, Iq, l, rfl, hs, y, E, Z, ac, W, ab, V, aa, K, H, aq, ap, ae, O⟩
         replace hs := hs.eqv (k := 4) rfl ((rL_f (show L 15 = false from pF Z hL) ((rL_f (show L 13 = false from pF ac hL) (rL_n)))))
         refine ld1 (k := 4) hs rfl (fG rfl bA) ty57 rfl ?_
         replace hs := hs.eqv (k := 4) rfl (Eq.symm (a := rL [(15, blk aB 59 [.slice D (m + 1) C, .slice N ((c ++ [av]).length) M]), (13, blk aB 59 [.slice D (m + 1) C, .slice e c.length d])] (blk aB 59 [.slice s m q, .slice e c.length d]) (setL L 1)) (((rL_f (L := setL L 1) (show L 15 = false from pF Z hL) ((rL_f (L := setL L 1) (show L 13 = false from pF ac hL) (rL_n)))))))
         exact oN ⟨rfl, rfl, ai, D, C, ah, N, M, Iq, l, fS rfl rfl, hs, (fun h => y h), (fun h => E h), (fun _ => rfl), (fun _ => rfl), W, ab, V, aa, K, H, aq, ap, ae, O⟩
       · rintro L f w _ hL ⟨ai, D, C, ah, N, M, Iq, l, rfl, hs, y, E, Z, ac, W, ab, V, aa, K, H, aq, ap, ae, O⟩
         refine mS dc ?_
         exact oN ⟨rfl, rfl, ai, D, C, ah, N, M, Iq, l, fS rfl rfl, hs, (fun h => y h), (fun h => E h), Z, ac, W, ab, V, aa, K, H, aq, ap, ae, O⟩
       · rintro L f w ⟨bH, _⟩ hL ⟨ai, D, C, ah, N, M, Iq, l, rfl, hs, y, E, Z, ac, W, ab, V, aa, K, H, aq, ap, ae, O⟩
         refine ow_buildSlice (vp := [(0, .slice am aG.2.length al)]) (cs := [.slice am aG.2.length al]) hs sl57 ty24 rfl ⟨rfl, (fG rfl bH), trivial⟩ (by decide) rfl (by decide) ?_
         clear hs; intro ai fd w dU hs aJ
         exact oN ⟨rfl, rfl, ai, D, C, ah, N, M, fd, (l.trans dU), (Eq.trans (fSG (i := 3) rfl rfl) (rfl)), hs, (fun _ => aJ), (fun h => (E h).mono dU), Z, ac, W, ab, V, aa, K, H, (fun _ => rfl), (fun _ => rfl), (fun _ => rfl), O⟩
       · rintro L f w ⟨bz, bc, _⟩ hL ⟨ai, D, C, ah, N, M, Iq, l, rfl, hs, y, E, Z, ac, W, ab, V, aa, K, H, aq, ap, ae, O⟩
         have aJ := y bc
         replace hs := hs.eqv (k := 0) rfl ((rL_f hL (rL_n)))
         replace hs := hs.eqv (k := 2) rfl ((rL_f hL (rL_n)))
         replace hs := hs.eqv (k := 4) rfl ((rL_f (show L 15 = false from pF W hL) ((rL_f (show L 13 = false from pF ab hL) (rfl)))))
         refine ow_appendRow (k := 2) (k2 := 0) (xs := aG.2) hs rfl rfl rfl sl57 ty24 el24 (fG rfl bz) (fG rfl bc) aJ eW (by decide) ?_
         clear hs; intro D C w hs
         replace hs := hs.eqv (k := 4) rfl (Eq.symm (a := rL [(15, blk aB 59 [.slice D (m + 1) C, .slice N ((c ++ [av]).length) M]), (13, blk aB 59 [.slice D (m + 1) C, .slice e c.length d])] (blk aB 59 [.slice s m q, .slice e c.length d]) (setL L 4)) (((rL_f (L := setL L 4) (show L 15 = false from pF W hL) ((rL_f (L := setL L 4) (show L 13 = false from pF ab hL) (rfl)))))))
         exact oN ⟨rfl, rfl, ai, D, C, ah, N, M, Iq, l, (Eq.trans (fSG (i := 4) rfl rfl) (rfl)), hs, (fun h => y h), (fun h => E h), Z, ac, (fun _ => rfl), (fun _ => rfl), V, aa, K, H, (fun _ => bc), ap, ae, O⟩
       · rintro L f w _ hL ⟨ai, D, C, ah, N, M, Iq, l, rfl, hs, y, E, Z, ac, W, ab, V, aa, K, H, aq, ap, ae, O⟩
         refine oF (b := aB) (o := 0) fl59_1 aX ?_
         exact oN ⟨rfl, rfl, ai, D, C, ah, N, M, Iq, l, fS rfl rfl, hs, (fun h => y h), (fun h => E h), Z, ac, W, ab, V, aa, K, H, aq, ap, ae, O⟩
       · rintro L f w ⟨bG, _⟩ hL ⟨ai, D, C, ah, N, M, Iq, l, rfl, hs, y, E, Z, ac, W, ab, V, aa, K, H, aq, ap, ae, O⟩
         replace hs := hs.eqv (k := 4) rfl ((rL_f (show L 15 = false from pF V hL) ((rL_f (show L 13 = false from pF aa hL) (rL_n)))))
         refine ld1 (k := 4) hs rfl (fG rfl bG) ty24 rfl ?_
         replace hs := hs.eqv (k := 4) rfl (Eq.symm (a := rL [(15, blk aB 59 [.slice D (m + 1) C, .slice N ((c ++ [av]).length) M]), (13, blk aB 59 [.slice D (m + 1) C, .slice e c.length d])] (blk aB 59 [.slice s m q, .slice e c.length d]) (setL L 6)) (((rL_f (L := setL L 6) (show L 15 = false from pF V hL) ((rL_f (L := setL L 6) (show L 13 = false from pF aa hL) (rL_n)))))))
         exact oN ⟨rfl, rfl, ai, D, C, ah, N, M, Iq, l, fS rfl rfl, hs, (fun h => y h), (fun h => E h), Z, ac, W, ab, (fun _ => rfl), (fun _ => rfl), K, H, aq, ap, ae, O⟩
       · rintro L f w _ hL ⟨ai, D, C, ah, N, M, Iq, l, rfl, hs, y, E, Z, ac, W, ab, V, aa, K, H, aq, ap, ae, O⟩
         refine mS ct ?_
         exact oN ⟨rfl, rfl, ai, D, C, ah, N, M, Iq, l, fS rfl rfl, hs, (fun h => y h), (fun h => E h), Z, ac, W, ab, V, aa, K, H, aq, ap, ae, O⟩
       · rintro L f w _ hL ⟨ai, D, C, ah, N, M, Iq, l, rfl, hs, y, E, Z, ac, W, ab, V, aa, K, H, aq, ap, ae, O⟩
         refine mI a7 ?_
         exact oN ⟨rfl, rfl, ai, D, C, ah, N, M, Iq, l, fS rfl rfl, hs, (fun h => y h), (fun h => E h), Z, ac, W, ab, V, aa, K, H, aq, ap, ae, O⟩
       · rintro L f w ⟨bW, bV, bf, _⟩ hL ⟨ai, D, C, ah, N, M, Iq, l, rfl, hs, y, E, Z, ac, W, ab, V, aa, K, H, aq, ap, ae, O⟩
         have aJ := y (aq bf)
         replace cS := cS.mono ((a4.trans bO).trans l)
         refine oC (fi := []) (vs := [.slice cN x5.length cM, iN R]) (ca := []) rfl ⟨(fG rfl bW), (fG rfl bV), trivial⟩ en11 (f11_ok _ _ eL hs cS) ?_
         clear hs; rintro _ w ⟨fc, cC, hs, rfl⟩
         exact oN ⟨rfl, rfl, ai, D, C, ah, N, M, fc, (l.trans cC), fS rfl rfl, hs, (fun h => (y h).mono cC), (fun h => (E h).mono cC), Z, ac, W, ab, V, aa, K, H, aq, (fun _ => (aq bf)), ae, O⟩
       · rintro L f w ⟨bv, _⟩ hL ⟨ai, D, C, ah, N, M, Iq, l, rfl, hs, y, E, Z, ac, W, ab, V, aa, K, H, aq, ap, ae, O⟩
         have aJ := y (ap bv)
         refine ow_buildSlice (vp := [(0, iN av)]) (cs := [iN av]) hs sl24 ty3 rfl ⟨rfl, (fG rfl bv), trivial⟩ (by decide) rfl (by decide) ?_
         clear hs; intro ah eC w dS hs aP
         replace aP : Rs eC 1 ah [av].length 1 ([av].flatMap e64) := aP
         exact oN ⟨rfl, rfl, ai, D, C, ah, N, M, eC, (l.trans dS), (Eq.trans (fSG (i := 10) rfl rfl) (rfl)), hs, (fun h => (y h).mono dS), (fun _ => aP), Z, ac, W, ab, V, aa, K, H, aq, ap, (fun _ => (ap bv)), (fun _ => rfl)⟩
       · rintro L f w ⟨bw, a0, bv, _⟩ hL ⟨ai, D, C, ah, N, M, Iq, l, rfl, hs, y, E, Z, ac, W, ab, V, aa, K, H, aq, ap, ae, O⟩
         have aJ := y (ae a0)
         have aP := E a0
         replace hs := hs.eqv (k := 1) rfl ((rL_f hL (rL_n)))
         replace hs := hs.eqv (k := 4) rfl ((rL_f (show L 15 = false from pF K hL) (rfl)))
         refine ow_appendT (k := 1) (enc := e64) (X := c) (Y := [av]) hs rfl sl24 ty3 el3 rfl (fG rfl bw) (fG rfl a0) aP (fun _ => rfl) eV (by decide) ?_
         clear hs; intro N M w hs
         replace hs := hs.eqv (k := 4) rfl (Eq.symm (a := rL [(15, blk aB 59 [.slice D (m + 1) C, .slice N ((c ++ [av]).length) M]), (13, blk aB 59 [.slice D (m + 1) C, .slice e c.length d])] (blk aB 59 [.slice s m q, .slice e c.length d]) (setL L 11)) (((rL_f (L := setL L 11) (show L 15 = false from pF K hL) (rfl)))))
         exact oN ⟨rfl, rfl, ai, D, C, ah, N, M, Iq, l, (Eq.trans (fSG (i := 11) rfl rfl) (rfl)), hs, (fun h => y h), (fun h => E h), Z, ac, W, ab, V, aa, (fun _ => rfl), H, aq, ap, ae, (fun _ => a0)⟩
       · rintro L f w ⟨bA, bz, bH, bc, bf, bG, bw, _⟩ hL ⟨ai, D, C, ah, N, M, Iq, l, rfl, hs, y, E, Z, ac, W, ab, V, aa, K, H, aq, ap, ae, O⟩
         have aJ := y bc
         refine oF (b := aB) (o := 0) fl59_0 aX ?_
         exact oN ⟨rfl, rfl, ai, D, C, ah, N, M, Iq, l, fS rfl rfl, hs, (fun h => y h), (fun h => E h), Z, ac, W, ab, V, aa, K, H, aq, ap, ae, O⟩
       · rintro L f w ⟨cP, bf, bx, bA, bz, bH, bc, _, bG, bw, _⟩ hL ⟨ai, D, C, ah, N, M, Iq, l, rfl, hs, y, E, Z, ac, W, ab, V, aa, K, H, aq, ap, ae, O⟩
         have aJ := y bc
         have aP := E (O bx)
         replace hs := hs.eqv (k := 4) rfl ((rL_f (show L 15 = false from pF H hL) ((rL_f hL (rL_n)))))
         refine oS (k := 4) (vs := [.slice D (m + 1) C]) (cs' := [.slice D (m + 1) C, .slice e c.length d]) hs rfl (fG rfl cP) (fG rfl bf) ty57 rfl rfl (nLe rfl) rfl rfl ?_
         clear hs; intro w hs
         replace hs := hs.eqv (k := 4) rfl (Eq.symm (a := rL [(15, blk aB 59 [.slice D (m + 1) C, .slice N ((c ++ [av]).length) M]), (13, blk aB 59 [.slice D (m + 1) C, .slice e c.length d])] (blk aB 59 [.slice s m q, .slice e c.length d]) (setL L 13)) (((rL_f (L := setL L 13) (show L 15 = false from pF H hL) (rL_t (L := setL L 13) rfl)))))
         exact oN ⟨rfl, rfl, ai, D, C, ah, N, M, Iq, l, frL_no rfl, hs, (fun h => y h), (fun h => E h), Z, (fun _ => bz), W, (fun _ => bf), V, (fun _ => bw), K, (fun _ => rfl), aq, ap, ae, O⟩
       · rintro L f w ⟨bA, bz, bH, bc, bf, bG, bw, bW, bV, bv, a0, bx, cP, cO, _⟩ hL ⟨ai, D, C, ah, N, M, Iq, l, rfl, hs, y, E, Z, ac, W, ab, V, aa, K, H, aq, ap, ae, O⟩
         have aJ := y bc
         have aP := E a0
         refine oF (b := aB) (o := 0) fl59_1 aX ?_
         exact oN ⟨rfl, rfl, ai, D, C, ah, N, M, Iq, l, fS rfl rfl, hs, (fun h => y h), (fun h => E h), Z, ac, W, ab, V, aa, K, H, aq, ap, ae, O⟩
       · rintro L f w ⟨ej, bx, cO, bA, bz, bH, bc, bf, bG, bw, bW, bV, bv, a0, _, cP, _, _⟩ hL ⟨ai, D, C, ah, N, M, Iq, l, rfl, hs, y, E, Z, ac, W, ab, V, aa, K, H, aq, ap, ae, O⟩
         have aJ := y bc
         have aP := E a0
         replace hs := hs.eqv (k := 4) rfl ((rL_f hL (rL_t cO)))
         refine oS (k := 4) (vs := [.slice N ((c ++ [av]).length) M]) (cs' := [.slice D (m + 1) C, .slice N ((c ++ [av]).length) M]) hs rfl (fG rfl ej) (fG rfl bx) ty24 rfl rfl (nLe rfl) rfl rfl ?_
         clear hs; intro w hs
         exact oN ⟨rfl, rfl, ai, D, C, ah, N, M, Iq, l, frL_no rfl, hs, (fun h => y h), (fun h => E h), (fun _ => bz), ac, (fun _ => bf), ab, (fun _ => bw), aa, (fun _ => bx), (fun _ => cO), aq, ap, ae, O⟩
       rintro L f w hall ⟨ai, D, C, ah, N, M, eD, cB, rfl, hs, aJ, aP, _, _, _, _, _, _, _, _, _, _, _, _⟩
       rw [frL_tt _ rfl hall]
       replace hs := hs.eqv (k := 0) rfl (rL_t (hall 4 (nLe rfl)))
       replace hs := hs.eqv (k := 1) rfl (rL_t (hall 11 (nLe rfl)))
       replace hs := hs.eqv (k := 2) rfl (rL_t (hall 4 (nLe rfl)))
       replace hs := hs.eqv (k := 4) rfl (rL_t (hall 15 (nLe rfl)))
       replace aJ := aJ (hall 3 (nLe rfl))
       replace aP := aP (hall 10 (nLe rfl))
       refine sQR ?_
       replace hs := hs.front (k := 5) rfl
       have aM := (iS hm).1
       replace hm := (iS hm).2
       obtain ⟨cl, hs⟩ := hs.rowOut aM.1 aM.2
       obtain ⟨az, eK, hm⟩ := bS hm
       have eU := (iS hm).1
       replace hm := (iS hm).2
       refine cD mixed rfl (fun f0 L f w => ∃ (ar : Option Addr) (ag : Option Addr) (af : Nat) (Iq : Im), Im.le eD Iq ∧ f = frL [(156, 0, pQ aZ 0), (157, 1, .slice aw 1 1), (158, 2, pQ aZ 0), (159, 3, .slice aw 1 1), (160, 4, .pointer (some (ea aw ((0 : Int).toNat * 1)))), (161, 5, .slice ((rAt B (0 : Int)).1) ((at' t (0 : Int)).length) ((rAt B (0 : Int)).2)), (162, 6, .slice ci x6.length ch), (163, 7, iN R), (164, 8, iN az), (165, 9, .slice ar ([az].length) 1), (166, 10, .slice ag (((at' t (0 : Int)) ++ [az]).length) af), (167, 11, .pointer (some (ea aw ((0 : Int).toNat * 1))))] L f0 ∧ Sat Iq (rL [(12, emp), (10, osl 3 1 ag ((at' t (0 : Int)) ++ [az]).length af (((at' t (0 : Int)) ++ [az]).flatMap e64))] (osl 3 1 ((rAt B (0 : Int)).1) (at' t (0 : Int)).length ((rAt B (0 : Int)).2) ((at' t (0 : Int)).flatMap e64)) L :: rL [(12, rowsP aw 1 1 (B.set (0 : Int).toNat (ag, af)) (t.set (0 : Int).toNat ((at' t (0 : Int)) ++ [az])))] (rowsH (0 : Int) aw 1 1 B t) L :: emp :: osl 3 1 N (c ++ [av]).length M ((c ++ [av]).flatMap e64) :: rowsP D (m + 1) C (aF ++ [(am, al)]) (ay ++ [aG.2]) :: blk aZ 59 [.slice aw 1 1, .slice none 0 0] :: blk aB 59 [.slice D (m + 1) C, .slice N ((c ++ [av]).length) M] :: blk bd 26 (cL0 G.1 G.2.1 ak G.2.2.1.length aj) :: blk bL 33 (cL8 z.1 z.2.1 1 a6 1 1) :: blk b8 56 (cL4 z.1 z.2.1 z.1 z.2.1 none 0 0 (w64 (x7)) (w64 ((w64 ((w64 (x7)) + 1)) + (w64 (x8))))) :: blk b6 26 (rL2 z aC aD) :: F) w ∧ (L 9 = true → Rs Iq 1 ar [az].length 1 ([az].flatMap e64)) ∧ (L 12 = true → L 4 = true) ∧ (L 12 = true → L 5 = true) ∧ (L 12 = true → L 10 = true) ∧ (L 12 = true → L 11 = true)) ⟨none, none, 0, eD, iR, (frL_ff _).symm, hs.drew, (fun h => by cases h), (fun h => by cases h), (fun h => by cases h), (fun h => by cases h), (fun h => by cases h)⟩ ⟨?_, ?_, ?_, ?_, ?_, ?_, ?_, ?_, ?_, ?_, ?_, ?_, ?_, trivial⟩ ?_
       all_goals clear hs
       · rintro L f w _ hL ⟨ar, ag, af, Iq, l, rfl, hs, U, ao, an, T, ad⟩
         refine oF (b := aZ) (o := 0) fl59_0 bk ?_
         exact oN ⟨rfl, rfl, ar, ag, af, Iq, l, fS rfl rfl, hs, (fun h => U h), ao, an, T, ad⟩
       · rintro L f w ⟨bA, _⟩ hL ⟨ar, ag, af, Iq, l, rfl, hs, U, ao, an, T, ad⟩
         refine ld1 (k := 5) hs rfl (fG rfl bA) ty57 rfl ?_
         exact oN ⟨rfl, rfl, ar, ag, af, Iq, l, fS rfl rfl, hs, (fun h => U h), ao, an, T, ad⟩
       · rintro L f w _ hL ⟨ar, ag, af, Iq, l, rfl, hs, U, ao, an, T, ad⟩
         refine oF (b := aZ) (o := 0) fl59_0 bk ?_
         exact oN ⟨rfl, rfl, ar, ag, af, Iq, l, fS rfl rfl, hs, (fun h => U h), ao, an, T, ad⟩
       · rintro L f w ⟨bH, _⟩ hL ⟨ar, ag, af, Iq, l, rfl, hs, U, ao, an, T, ad⟩
         refine ld1 (k := 5) hs rfl (fG rfl bH) ty57 rfl ?_
         exact oN ⟨rfl, rfl, ar, ag, af, Iq, l, fS rfl rfl, hs, (fun h => U h), ao, an, T, ad⟩
       · rintro L f w ⟨bc, _⟩ hL ⟨ar, ag, af, Iq, l, rfl, hs, U, ao, an, T, ad⟩
         replace hs := hs.eqv (k := 1) rfl ((rL_f (show L 12 = false from pF ao hL) (rL_n)))
         have fp := hs.rowsLenH (k := 1) rfl cl
         refine oI (i := (0 : Int)) sl57 ty24 (fG rfl bc) rfl aM.1 (by have := aM; omega) (sep_some hs (k := 1) rfl (by have := aM; omega)) ?_
         replace hs := hs.eqv (k := 1) rfl (Eq.symm (a := rL [(12, rowsP aw 1 1 (B.set (0 : Int).toNat (ag, af)) (t.set (0 : Int).toNat ((at' t (0 : Int)) ++ [az])))] (rowsH (0 : Int) aw 1 1 B t) (setL L 4)) (((rL_f (L := setL L 4) (show L 12 = false from pF ao hL) (rL_n)))))
         exact oN ⟨rfl, rfl, ar, ag, af, Iq, l, fS rfl rfl, hs, (fun h => U h), (fun _ => rfl), an, T, ad⟩
       · rintro L f w ⟨bf, _⟩ hL ⟨ar, ag, af, Iq, l, rfl, hs, U, ao, an, T, ad⟩
         replace hs := hs.eqv (k := 1) rfl ((rL_f (show L 12 = false from pF an hL) (rL_n)))
         refine ow_loadRow (k := 1) (i := (0 : Int)) hs rfl cl (fG rfl bf) ty24 aM.1 aM.2 ?_
         replace hs := hs.eqv (k := 1) rfl (Eq.symm (a := rL [(12, rowsP aw 1 1 (B.set (0 : Int).toNat (ag, af)) (t.set (0 : Int).toNat ((at' t (0 : Int)) ++ [az])))] (rowsH (0 : Int) aw 1 1 B t) (setL L 5)) (((rL_f (L := setL L 5) (show L 12 = false from pF an hL) (rL_n)))))
         exact oN ⟨rfl, rfl, ar, ag, af, Iq, l, fS rfl rfl, hs, (fun h => U h), ao, (fun _ => rfl), T, ad⟩
       · rintro L f w _ hL ⟨ar, ag, af, Iq, l, rfl, hs, U, ao, an, T, ad⟩
         refine mS bJ ?_
         exact oN ⟨rfl, rfl, ar, ag, af, Iq, l, fS rfl rfl, hs, (fun h => U h), ao, an, T, ad⟩
       · rintro L f w _ hL ⟨ar, ag, af, Iq, l, rfl, hs, U, ao, an, T, ad⟩
         refine mI a7 ?_
         exact oN ⟨rfl, rfl, ar, ag, af, Iq, l, fS rfl rfl, hs, (fun h => U h), ao, an, T, ad⟩
       · rintro L f w ⟨bw, bW, _⟩ hL ⟨ar, ag, af, Iq, l, rfl, hs, U, ao, an, T, ad⟩
         replace cg := cg.mono (((((bu.trans a5).trans a4).trans bO).trans cB).trans l)
         refine oC (fi := []) (vs := [.slice ci x6.length ch, iN R]) (ca := []) rfl ⟨(fG rfl bw), (fG rfl bW), trivial⟩ en11 (f11_ok _ _ eK hs cg) ?_
         clear hs; rintro _ w ⟨fb, dR, hs, rfl⟩
         exact oN ⟨rfl, rfl, ar, ag, af, fb, (l.trans dR), fS rfl rfl, hs, (fun h => (U h).mono dR), ao, an, T, ad⟩
       · rintro L f w ⟨bV, _⟩ hL ⟨ar, ag, af, Iq, l, rfl, hs, U, ao, an, T, ad⟩
         refine ow_buildSlice (vp := [(0, iN az)]) (cs := [iN az]) hs sl24 ty3 rfl ⟨rfl, (fG rfl bV), trivial⟩ (by decide) rfl (by decide) ?_
         clear hs; intro ar eA w ey hs aU
         replace aU : Rs eA 1 ar [az].length 1 ([az].flatMap e64) := aU
         exact oN ⟨rfl, rfl, ar, ag, af, eA, (l.trans ey), (Eq.trans (fSG (i := 9) rfl rfl) (rfl)), hs, (fun _ => aU), ao, an, T, ad⟩
       · rintro L f w ⟨bG, bv, bV, _⟩ hL ⟨ar, ag, af, Iq, l, rfl, hs, U, ao, an, T, ad⟩
         have aU := U bv
         replace hs := hs.eqv (k := 0) rfl ((rL_f (show L 12 = false from pF T hL) ((rL_f hL (rL_n)))))
         replace hs := hs.eqv (k := 1) rfl ((rL_f (show L 12 = false from pF T hL) (rfl)))
         refine ow_appendT (k := 0) (enc := e64) (X := at' t (0 : Int)) (Y := [az]) hs rfl sl24 ty3 el3 rfl (fG rfl bG) (fG rfl bv) aU (fun _ => rfl) eU (by decide) ?_
         clear hs; intro ag af w hs
         replace hs := hs.eqv (k := 0) rfl (Eq.symm (a := rL [(12, emp), (10, osl 3 1 ag ((at' t (0 : Int)) ++ [az]).length af (((at' t (0 : Int)) ++ [az]).flatMap e64))] (osl 3 1 ((rAt B (0 : Int)).1) (at' t (0 : Int)).length ((rAt B (0 : Int)).2) ((at' t (0 : Int)).flatMap e64)) (setL L 10)) (((rL_f (L := setL L 10) (show L 12 = false from pF T hL) (rL_t (L := setL L 10) rfl)))))
         replace hs := hs.eqv (k := 1) rfl (Eq.symm (a := rL [(12, rowsP aw 1 1 (B.set (0 : Int).toNat (ag, af)) (t.set (0 : Int).toNat ((at' t (0 : Int)) ++ [az])))] (rowsH (0 : Int) aw 1 1 B t) (setL L 10)) (((rL_f (L := setL L 10) (show L 12 = false from pF T hL) (rfl)))))
         exact oN ⟨rfl, rfl, ar, ag, af, Iq, l, (Eq.trans (fSG (i := 10) rfl rfl) (rfl)), hs, (fun h => U h), ao, an, (fun _ => rfl), ad⟩
       · rintro L f w ⟨bz, bA, _, bH, bc, bf, bG, bw, bW, bV, bv, a0, _⟩ hL ⟨ar, ag, af, Iq, l, rfl, hs, U, ao, an, T, ad⟩
         have aU := U bv
         replace hs := hs.eqv (k := 1) rfl ((rL_f (show L 12 = false from pF ad hL) (rL_n)))
         have fo := hs.rowsLenH (k := 1) rfl cl
         refine oI (i := (0 : Int)) sl57 ty24 (fG rfl bz) rfl aM.1 (by have := aM; omega) (sep_some hs (k := 1) rfl (by have := aM; omega)) ?_
         replace hs := hs.eqv (k := 1) rfl (Eq.symm (a := rL [(12, rowsP aw 1 1 (B.set (0 : Int).toNat (ag, af)) (t.set (0 : Int).toNat ((at' t (0 : Int)) ++ [az])))] (rowsH (0 : Int) aw 1 1 B t) (setL L 11)) (((rL_f (L := setL L 11) (show L 12 = false from pF ad hL) (rL_n)))))
         exact oN ⟨rfl, rfl, ar, ag, af, Iq, l, fS rfl rfl, hs, (fun h => U h), ao, an, T, (fun _ => rfl)⟩
       · rintro L f w ⟨bx, a0, _, bA, bz, bH, bc, bf, bG, bw, bW, bV, bv, _, _⟩ hL ⟨ar, ag, af, Iq, l, rfl, hs, U, ao, an, T, ad⟩
         have aU := U bv
         replace hs := hs.eqv (k := 0) rfl ((rL_f hL (rL_t a0)))
         replace hs := hs.eqv (k := 1) rfl ((rL_f hL (rL_n)))
         refine ow_storeRowH (k := 1) (k2 := 0) (i := (0 : Int)) (xs := ((at' t (0 : Int)) ++ [az])) hs rfl rfl rfl cl (fG rfl bx) (fG rfl a0) ty24 aM.1 aM.2 ?_
         clear hs; intro w hs
         exact oN ⟨rfl, rfl, ar, ag, af, Iq, l, frL_no rfl, hs, (fun h => U h), (fun _ => bf), (fun _ => bG), (fun _ => a0), (fun _ => bx)⟩
       rintro L f w hall ⟨ar, ag, af, fw, dQ, rfl, hs, aU, _, _, _, _⟩
       rw [frL_tt _ rfl hall]
       replace hs := hs.eqv (k := 0) rfl (rL_t (hall 12 (nLe rfl)))
       replace hs := hs.eqv (k := 1) rfl (rL_t (hall 12 (nLe rfl)))
       replace aU := aU (hall 9 (nLe rfl))
       refine sK <| cR <| mI df <| mS bJ <| mI a7 ?_
       obtain ⟨el, eJ, hm⟩ := bS hm
       replace cg := cg.mono (((((bu.trans a5).trans a4).trans bO).trans cB).trans dQ)
       refine oC (fi := []) (vs := [.slice ci x6.length ch, iN R]) (ca := []) rfl ⟨rfl, rfl, trivial⟩ en11 (f11_ok _ _ eJ hs cg) ?_
       clear hs; rintro _ w ⟨fa, ex, hs, rfl⟩
       refine mI da <| oV (x_max2 (k := .i64) (a := 0) (b := aG.1) rfl rfl) rfl <| oV (x_mul rfl rfl) rfl <| oV (x_add rfl rfl) rfl <| asI rfl <| oN <| blockK_n ?_
       replace hs := hs.erase 0
       replace hs := hs.erase 1
       replace hs := hs.front (k := 8) rfl
       replace hs := hs.front (k := 8) rfl
       replace hs := hs.front (k := 8) rfl
       replace hs := hs.front (k := 8) rfl
       replace hs := hs.front (k := 4) rfl
       replace hs := hs.front (k := 8) rfl
       replace hs := hs.front (k := 8) rfl
       replace hs := hs.front (k := 8) rfl
       replace hs := hs.front (k := 8) rfl
       obtain rfl := oJ hm
       refine jN ⟨N, M, D, (m + 1), C, aF ++ [(am, al)], B.set (0 : Int).toNat (ag, af), fa, rfl, ((((a4.trans bO).trans cB).trans dQ).trans ex), hs, d3, ct, bJ, dY, dK, dI, dD, dz, dv, dt, aX, bk, rfl, a7⟩
     clear hm hs
     rintro f ds w ⟨e, d, s, m, q, aI, B, c5, rfl, ew, hs, d4, d2, d0, dZ, dL, dJ, dE, dA, dw, du, dn, dk, dg, de⟩
     replace hm := eQ
     refine cR <| mI de <| oV (x_add rfl rfl) rfl <| asI rfl <| oN ?_
     exact lN ⟨k, Nat.lt_succ_self k, aH.1, w64 (R + 1), aH.2.1, aH.2.2.1, aH.2.2.2, aH.2.2.1, e, d, s, m, q, aI, B, aI, c5, rfl, (a5.trans ew), hm, hs, d4, d2, d0, dZ, dL, dJ, dE, dA, dw, du, dn, dk, dg, rfl⟩
   rw [if_neg cp] at hm
   refine cIf rfl (dF cp) <| cw_exit <| seqK_x <| loopK_x <| blockK_hit ?_
   obtain rfl := oJ hm
   refine jN ⟨e, d, s, m, q, aF, B, cK, rfl, a5, hs, ef, ed, dN, dH, dC, cw, dr, dm, dj⟩
 clear hm hs
 rintro f ds w ⟨e, d, s, m, q, aI, B, eb, rfl, cA, hs, d1, bI, bn, aN, bm, dx, dp, b7, aW⟩
 replace hm := eR
 refine cQ <| cR <| mS d1 <| mI dx ?_
 obtain ⟨ax, eI, hm⟩ := bS hm
 replace cg := cg.mono (bu.trans cA)
 refine oC (fi := []) (vs := [.slice ci x6.length ch, iN (w64 (1 + (w64 (Int.tmod x4 8))))]) (ca := []) rfl ⟨rfl, rfl, trivial⟩ en11 (f11_ok _ _ eI hs cg) ?_
 clear hs; rintro _ w ⟨fu, dP, hs, rfl⟩
 refine ow_buildSlice (vp := [(0, iN ax)]) (cs := [iN ax]) hs sl24 ty3 rfl ⟨rfl, rfl, trivial⟩ (by decide) rfl (by decide) ?_
 clear hs; intro aE e9 w dO hs bb
 replace bb : Rs e9 1 aE [ax].length 1 ([ax].flatMap e64) := bb
 refine oF (b := aZ) (o := 0) fl59_1 b7 <| oS (k := 2) (vs := [.slice aE ([ax].length) 1]) (cs' := [.slice aw 1 1, .slice aE ([ax].length) 1]) hs rfl rfl rfl ty24 rfl rfl (nLe rfl) rfl rfl ?_
 clear hs; intro w hs
 refine oN <| sQR ?_
 have eT := (hs.rowsLen (k := 1) rfl).2
 replace hs := hs.eqv (k := 3) rfl (congrArg (fun nn => blk aB 59 [.slice s nn q, .slice e x.2.1.length d]) eT)
 replace hs := hs.front (k := 1) rfl
 obtain ⟨e7, cz, ba, hs⟩ := hs.rowsFreeze
 replace ba : SN24 e7 s x.2.2.1.length q x.2.2.1 := ba
 have eS := (hs.rowsLen (k := 3) rfl).2
 replace hs := hs.eqv (k := 1) rfl (congrArg (fun nn => blk aZ 59 [.slice aw nn 1, .slice aE ([ax].length) 1]) eS)
 replace hs := hs.front (k := 3) rfl
 obtain ⟨e6, bN, a9, hs⟩ := hs.rowsFreeze
 replace a9 : SN24 e6 aw x.2.2.2.length 1 x.2.2.2 := a9
 refine cR <| oL (k := 2) (vs := [.slice s x.2.2.1.length q, .slice e x.2.1.length d]) (v := .agg #[.slice s x.2.2.1.length q, .slice e x.2.1.length d]) hs rfl dp ty59 rfl rfl rfl <| oL (k := 1) (vs := [.slice aw x.2.2.2.length 1, .slice aE ([ax].length) 1]) (v := .agg #[.slice aw x.2.2.2.length 1, .slice aE ([ax].length) 1]) hs rfl b7 ty59 rfl rfl rfl ?_
 obtain ⟨ft, bs, bE, hs⟩ := hs.freezeO
 refine ow_buildSlice (vp := [(0, .agg #[.slice s x.2.2.1.length q, .slice e x.2.1.length d]), (1, .agg #[.slice aw x.2.2.2.length 1, .slice aE ([ax].length) 1])]) (cs := (cL22 s x.2.2.1.length q e x.2.1.length d aw x.2.2.2.length 1 aE ([ax].length) 1)) hs sl54 ty59 rfl ⟨rfl, rfl, rfl, rfl, trivial⟩ (by decide) rfl (by decide) ?_
 clear hs; intro aQ c2 w be hs bD
 refine oF (b := b8) (o := 0) fl56_4 aN <| oS (k := 4) (vs := [.slice aQ 2 2]) (cs' := (cL4 z.1 z.2.1 z.1 z.2.1 aQ 2 2 (w64 (x7)) (w64 ((w64 ((w64 (x7)) + 1)) + (w64 (x8)))))) hs rfl rfl rfl ty54 rfl rfl (nLe rfl) rfl rfl ?_
 clear hs; intro w hs
 refine oN <| sQR <| cR <| asI rfl <| oN <| sK ?_
 obtain ⟨bg, cy, eO⟩ := bS hm
 replace hm := cy; clear cy
 refine cJ (fun f ds w => ∃ (d9 : Im), ds = [] ∧ Im.le c2 d9 ∧ Sat d9 (blk aZ 59 [.slice aw x.2.2.2.length 1, .slice aE ([ax].length) 1] :: blk aB 59 [.slice s x.2.2.1.length q, .slice e x.2.1.length d] :: blk bd 26 (cL0 G.1 G.2.1 ak G.2.2.1.length aj) :: blk bL 33 (cL8 z.1 z.2.1 1 a6 1 1) :: blk b8 56 (cL4 z.1 z.2.1 z.1 z.2.1 aQ 2 2 (w64 (x7)) (w64 ((w64 ((w64 (x7)) + 1)) + (w64 (x8))))) :: blk b6 26 (rL2 z aC aD) :: F) w ∧ f 9 = .int .u8 x9 ∧ f 20 = .bool false ∧ f 22 = pQ b8 0 ∧ f 24 = pQ bd 0 ∧ f 30 = iN x.1 ∧ f 35 = .int .u8 bg) ?_ ?_
 · refine cQ <| cR <| mI aW <| oF (b := b8) (o := 0) fl56_6 aN <| ld1 (k := 4) hs rfl rfl ty3 rfl <| oV (x_geq rfl rfl) rfl <| oN <| sK ?_
   by_cases cn : (w64 ((w64 ((w64 (x7)) + 1)) + (w64 (x8)))) ≤ x.1
   · rw [if_pos cn] at hm
     refine cIt rfl (dT cn) <| cR <| asI rfl <| oN ?_
     obtain rfl := oJ hm
     refine jN ⟨c2, rfl, iR, hs, bI, bn, aN, bm, aW, rfl⟩
   rw [if_neg cn] at hm
   refine cIf rfl (dF cn) <| cQ <| cR <| mI aW <| oF (b := b8) (o := 0) fl56_5 aN <| ld1 (k := 4) hs rfl rfl ty3 rfl <| oV (x_leq rfl rfl) rfl <| oN <| sK ?_
   by_cases cm : x.1 ≤ (w64 (x7))
   · rw [if_pos cm] at hm
     refine cIt rfl (dT cm) <| cR <| asI rfl <| oN ?_
     obtain rfl := oJ hm
     refine jN ⟨c2, rfl, iR, hs, bI, bn, aN, bm, aW, rfl⟩
   rw [if_neg cm] at hm
   refine cIf rfl (dF cm) <| cw_skip ?_
   obtain rfl := oJ hm
   refine jN ⟨c2, rfl, iR, hs, bI, bn, aN, bm, aW, rfl⟩
 clear hm hs
 rintro f ds w ⟨d9, rfl, a3, hs, dX, cb, b9, bl, b5, b3⟩
 replace hm := eO
 refine cQ <| cR <| oL (k := 4) (vs := (cL4 z.1 z.2.1 z.1 z.2.1 aQ 2 2 (w64 (x7)) (w64 ((w64 ((w64 (x7)) + 1)) + (w64 (x8)))))) (v := .agg (cL4 z.1 z.2.1 z.1 z.2.1 aQ 2 2 (w64 (x7)) (w64 ((w64 ((w64 (x7)) + 1)) + (w64 (x8))))).toArray) hs rfl b9 ty56 rfl rfl rfl <| oL (k := 2) (vs := (cL0 G.1 G.2.1 ak G.2.2.1.length aj)) (v := .agg (cL0 G.1 G.2.1 ak G.2.2.1.length aj).toArray) hs rfl bl ty26 rfl rfl rfl ?_
 obtain ⟨aO, eH, hm⟩ := bS hm
 replace hRz20_2 := hRz20_2.mono (((((((((bT.trans bu).trans cA).trans dP).trans dO).trans cz).trans bN).trans bs).trans be).trans a3); replace bb := bb.mono ((((cz.trans bN).trans bs).trans be).trans a3); replace ba := ba.mono (((bN.trans bs).trans be).trans a3); replace a9 := a9.mono ((bs.trans be).trans a3); replace bE := bE.mono (be.trans a3); replace bD := bD.mono a3
 refine oC (fi := []) (vs := [.agg (cL4 z.1 z.2.1 z.1 z.2.1 aQ 2 2 (w64 (x7)) (w64 ((w64 ((w64 (x7)) + 1)) + (w64 (x8))))).toArray, .agg (cL0 G.1 G.2.1 ak G.2.2.1.length aj).toArray]) (ca := []) rfl ⟨rfl, rfl, trivial⟩ en12 (f12_ok _ _ _ _ _ _ _ _ _ _ eH hs ⟨_, bD, ⟨[.slice s x.2.2.1.length q, .slice e x.2.1.length d], [.slice aw x.2.2.2.length 1, .slice aE ([ax].length) 1], rfl, ⟨s, q, e, d, rfl, ba, bE⟩, ⟨[.slice aw x.2.2.2.length 1, .slice aE ([ax].length) 1], [], rfl, ⟨aw, 1, aE, 1, rfl, a9, bb⟩, rfl⟩⟩⟩ hRz20_2) ?_
 clear hs; rintro _ w ⟨fs, a2, hs, rfl⟩
 refine oV (xM (v := .tuple (rL5 aO).toArray) rfl) rfl <| oV (xE (v := iN aO.1) rfl rfl) rfl <| oV (xE (v := .int .u8 aO.2.1) rfl rfl) rfl <| oV (xE (v := iN aO.2.2) rfl rfl) rfl <| asI rfl <| asI rfl <| asI rfl <| oN <| sQR <| cR <| oL (k := 4) (vs := (cL4 z.1 z.2.1 z.1 z.2.1 aQ 2 2 (w64 (x7)) (w64 ((w64 ((w64 (x7)) + 1)) + (w64 (x8)))))) (v := .agg (cL4 z.1 z.2.1 z.1 z.2.1 aQ 2 2 (w64 (x7)) (w64 ((w64 ((w64 (x7)) + 1)) + (w64 (x8))))).toArray) hs rfl b9 ty56 rfl rfl rfl ?_
 refine oL (k := 2) (vs := (cL0 G.1 G.2.1 ak G.2.2.1.length aj)) (v := .agg (cL0 G.1 G.2.1 ak G.2.2.1.length aj).toArray) hs rfl bl ty26 rfl rfl rfl <| oL (k := 2) (vs := (cL0 G.1 G.2.1 ak G.2.2.1.length aj)) (v := .agg (cL0 G.1 G.2.1 ak G.2.2.1.length aj).toArray) hs rfl bl ty26 rfl rfl rfl <| mI dX <| oV (x_rem rfl rfl (by decide)) rfl <| oV (x_conv (a := (Int.tmod x9 9)) it5 it3 rfl) rfl ?_
 obtain ⟨aY, eG, hm⟩ := bS hm
 replace hRz20_2 := hRz20_2.mono a2; replace bb := bb.mono a2; replace ba := ba.mono a2; replace a9 := a9.mono a2; replace bE := bE.mono a2; replace bD := bD.mono a2
 refine oC (fi := []) (vs := [.agg (cL4 z.1 z.2.1 z.1 z.2.1 aQ 2 2 (w64 (x7)) (w64 ((w64 ((w64 (x7)) + 1)) + (w64 (x8))))).toArray, .agg (cL0 G.1 G.2.1 ak G.2.2.1.length aj).toArray, .agg (cL0 G.1 G.2.1 ak G.2.2.1.length aj).toArray, iN (w64 (Int.tmod x9 9))]) (ca := []) rfl ⟨rfl, rfl, rfl, rfl, trivial⟩ en13 (f13_ok _ _ _ _ _ _ _ _ _ _ _ _ _ _ eG hs ⟨_, bD, ⟨[.slice s x.2.2.1.length q, .slice e x.2.1.length d], [.slice aw x.2.2.2.length 1, .slice aE ([ax].length) 1], rfl, ⟨s, q, e, d, rfl, ba, bE⟩, ⟨[.slice aw x.2.2.2.length 1, .slice aE ([ax].length) 1], [], rfl, ⟨aw, 1, aE, 1, rfl, a9, bb⟩, rfl⟩⟩⟩ hRz20_2 hRz20_2) ?_
 clear hs; rintro _ w ⟨d6, eu, hs, rfl⟩
 refine oV (xM (v := .tuple #[.int .u8 aY.1, iN aY.2]) rfl) rfl <| oV (xE (v := .int .u8 aY.1) rfl rfl) rfl <| oV (xE (v := iN aY.2) rfl rfl) rfl <| asI rfl <| asI rfl <| oN <| sQR <| cR <| mI rfl <| oV (x_eql rfl rfl) rfl <| mB rfl ?_
 obtain ⟨c0, br, hm⟩ := bS hm
 refine oJN 3 (fun f ds w => ∃ (bZ : Im), ds = [] ∧ Im.le d6 bZ ∧ Sat bZ (blk aZ 59 [.slice aw x.2.2.2.length 1, .slice aE ([ax].length) 1] :: blk aB 59 [.slice s x.2.2.1.length q, .slice e x.2.1.length d] :: blk bd 26 (cL0 G.1 G.2.1 ak G.2.2.1.length aj) :: blk bL 33 (cL8 z.1 z.2.1 1 a6 1 1) :: blk b8 56 (cL4 z.1 z.2.1 z.1 z.2.1 aQ 2 2 (w64 (x7)) (w64 ((w64 ((w64 (x7)) + 1)) + (w64 (x8))))) :: blk b6 26 (rL2 z aC aD) :: F) w ∧ f 215 = .bool c0 ∧ f 20 = .bool false ∧ f 30 = iN x.1 ∧ f 35 = .int .u8 bg ∧ f 36 = iN aO.1 ∧ f 37 = .int .u8 aO.2.1 ∧ f 39 = .int .u8 aY.1) ?_ ?_
 · by_cases a8 : aO.2.2 = 0
   · rw [if_pos a8] at br
     refine oG (yO rfl rfl (dT a8)) <| mI rfl <| oG (yO rfl rfl (dT a8)) <| oV (x_eql rfl rfl) rfl <| oV (xPt (v := .bool (decide (aY.2 = 0))) ((rfl : ev _ _ _ = _).trans (congrArg Value.bool (dT a8))) rfl) rfl <| oN ?_
     obtain rfl := oJ br
     exact ⟨d6, rfl, iR, hs, rfl, cb, b5, b3, rfl, rfl, rfl⟩
   rw [if_neg a8] at br
   refine oO (b := false) (yO rfl rfl (dF a8)) rfl <| oO (b := false) (yO rfl rfl (dF a8)) rfl <| oV (xPf (v := .bool false) ((rfl : ev _ _ _ = _).trans (congrArg Value.bool (dF a8))) rfl) rfl <| oN ?_
   obtain rfl := oJ br
   exact ⟨d6, rfl, iR, hs, rfl, cb, b5, b3, rfl, rfl, rfl⟩
 clear br hs
 rintro f ds w ⟨bZ, rfl, et, hs, htbb6229, cf, dh, b4, c8, b2, b1⟩
 refine mB htbb6229 ?_
 obtain ⟨cZ, bq, hm⟩ := bS hm
 refine oJN 4 (fun f ds w => ∃ (bY : Im), ds = [] ∧ Im.le bZ bY ∧ Sat bY (blk aZ 59 [.slice aw x.2.2.2.length 1, .slice aE ([ax].length) 1] :: blk aB 59 [.slice s x.2.2.1.length q, .slice e x.2.1.length d] :: blk bd 26 (cL0 G.1 G.2.1 ak G.2.2.1.length aj) :: blk bL 33 (cL8 z.1 z.2.1 1 a6 1 1) :: blk b8 56 (cL4 z.1 z.2.1 z.1 z.2.1 aQ 2 2 (w64 (x7)) (w64 ((w64 ((w64 (x7)) + 1)) + (w64 (x8))))) :: blk b6 26 (rL2 z aC aD) :: F) w ∧ f 220 = .bool cZ ∧ f 20 = .bool false ∧ f 35 = .int .u8 bg ∧ f 37 = .int .u8 aO.2.1 ∧ f 39 = .int .u8 aY.1) ?_ ?_
 · by_cases aT : c0 = true
   · rw [if_pos aT] at bq
     refine oG (yO rfl rfl aT) <| mI c8 <| oG (yO rfl rfl aT) <| mI dh <| oG (yO rfl rfl aT) <| oV (x_eql rfl rfl) rfl <| oV (xPt (v := .bool (decide (aO.1 = x.1))) ((rfl : ev _ _ _ = _).trans (congrArg Value.bool aT)) rfl) rfl <| oN ?_
     obtain rfl := oJ bq
     exact ⟨bZ, rfl, iR, hs, rfl, cf, b4, b2, b1⟩
   rw [if_neg aT] at bq
   refine oO (b := false) (yO rfl rfl (bF aT)) rfl <| oO (b := false) (yO rfl rfl (bF aT)) rfl <| oO (b := false) (yO rfl rfl (bF aT)) rfl <| oV (xPf (v := .bool false) ((rfl : ev _ _ _ = _).trans (congrArg Value.bool (bF aT))) rfl) rfl <| oN ?_
   obtain rfl := oJ bq
   exact ⟨bZ, rfl, iR, hs, rfl, cf, b4, b2, b1⟩
 clear bq hs
 rintro f ds w ⟨bY, rfl, es, hs, htbb6233, ce, bi, c7, b0⟩
 refine mB htbb6233 ?_
 obtain ⟨cY, bp, hm⟩ := bS hm
 refine oJN 4 (fun f ds w => ∃ (bX : Im), ds = [] ∧ Im.le bY bX ∧ Sat bX (blk aZ 59 [.slice aw x.2.2.2.length 1, .slice aE ([ax].length) 1] :: blk aB 59 [.slice s x.2.2.1.length q, .slice e x.2.1.length d] :: blk bd 26 (cL0 G.1 G.2.1 ak G.2.2.1.length aj) :: blk bL 33 (cL8 z.1 z.2.1 1 a6 1 1) :: blk b8 56 (cL4 z.1 z.2.1 z.1 z.2.1 aQ 2 2 (w64 (x7)) (w64 ((w64 ((w64 (x7)) + 1)) + (w64 (x8))))) :: blk b6 26 (rL2 z aC aD) :: F) w ∧ f 225 = .bool cY ∧ f 20 = .bool false ∧ f 35 = .int .u8 bg ∧ f 39 = .int .u8 aY.1) ?_ ?_
 · by_cases aS : cZ = true
   · rw [if_pos aS] at bp
     refine oG (yO rfl rfl aS) <| mI c7 <| oG (yO rfl rfl aS) <| mI bi <| oG (yO rfl rfl aS) <| oV (x_eql rfl rfl) rfl <| oV (xPt (v := .bool (decide (aO.2.1 = bg))) ((rfl : ev _ _ _ = _).trans (congrArg Value.bool aS)) rfl) rfl <| oN ?_
     obtain rfl := oJ bp
     exact ⟨bY, rfl, iR, hs, rfl, ce, bi, b0⟩
   rw [if_neg aS] at bp
   refine oO (b := false) (yO rfl rfl (bF aS)) rfl <| oO (b := false) (yO rfl rfl (bF aS)) rfl <| oO (b := false) (yO rfl rfl (bF aS)) rfl <| oV (xPf (v := .bool false) ((rfl : ev _ _ _ = _).trans (congrArg Value.bool (bF aS))) rfl) rfl <| oN ?_
   obtain rfl := oJ bp
   exact ⟨bY, rfl, iR, hs, rfl, ce, bi, b0⟩
 clear bp hs
 rintro f ds w ⟨bX, rfl, er, hs, htbb6237, cd, c9, c6⟩
 refine mB htbb6237 ?_
 obtain ⟨cX, bo, hm⟩ := bS hm
 refine oJN 4 (fun f ds w => ∃ (cH : Im), ds = [] ∧ Im.le bX cH ∧ Sat cH (blk aZ 59 [.slice aw x.2.2.2.length 1, .slice aE ([ax].length) 1] :: blk aB 59 [.slice s x.2.2.1.length q, .slice e x.2.1.length d] :: blk bd 26 (cL0 G.1 G.2.1 ak G.2.2.1.length aj) :: blk bL 33 (cL8 z.1 z.2.1 1 a6 1 1) :: blk b8 56 (cL4 z.1 z.2.1 z.1 z.2.1 aQ 2 2 (w64 (x7)) (w64 ((w64 ((w64 (x7)) + 1)) + (w64 (x8))))) :: blk b6 26 (rL2 z aC aD) :: F) w ∧ f 230 = .bool cX ∧ f 20 = .bool false) ?_ ?_
 · by_cases aR : cY = true
   · rw [if_pos aR] at bo
     refine oG (yO rfl rfl aR) <| mI c6 <| oG (yO rfl rfl aR) <| mI c9 <| oG (yO rfl rfl aR) <| oV (x_eql rfl rfl) rfl <| oV (xPt (v := .bool (decide (aY.1 = bg))) ((rfl : ev _ _ _ = _).trans (congrArg Value.bool aR)) rfl) rfl <| oN ?_
     obtain rfl := oJ bo
     exact ⟨bX, rfl, iR, hs, rfl, cd⟩
   rw [if_neg aR] at bo
   refine oO (b := false) (yO rfl rfl (bF aR)) rfl <| oO (b := false) (yO rfl rfl (bF aR)) rfl <| oO (b := false) (yO rfl rfl (bF aR)) rfl <| oV (xPf (v := .bool false) ((rfl : ev _ _ _ = _).trans (congrArg Value.bool (bF aR))) rfl) rfl <| oN ?_
   obtain rfl := oJ bo
   exact ⟨bX, rfl, iR, hs, rfl, cd⟩
 clear bo hs
 rintro f ds w ⟨cH, rfl, eq, hs, htbb6241, cc⟩
 refine mB htbb6241 ?_
 obtain ⟨cW, a1, hm⟩ := bS hm
 refine oJN 2 (fun f ds w => ∃ (c3 : Im), ds = [] ∧ Im.le cH c3 ∧ Sat c3 (blk aZ 59 [.slice aw x.2.2.2.length 1, .slice aE ([ax].length) 1] :: blk aB 59 [.slice s x.2.2.1.length q, .slice e x.2.1.length d] :: blk bd 26 (cL0 G.1 G.2.1 ak G.2.2.1.length aj) :: blk bL 33 (cL8 z.1 z.2.1 1 a6 1 1) :: blk b8 56 (cL4 z.1 z.2.1 z.1 z.2.1 aQ 2 2 (w64 (x7)) (w64 ((w64 ((w64 (x7)) + 1)) + (w64 (x8))))) :: blk b6 26 (rL2 z aC aD) :: F) w ∧ f 233 = .bool cW ∧ f 20 = .bool false) ?_ ?_
 · by_cases bC : cX = true
   · rw [if_pos bC] at a1
     refine oG (yO rfl rfl bC) ?_
     obtain ⟨dV, eF, a1⟩ := bS a1
     refine oC (fi := []) (vs := []) (ca := []) rfl trivial en10 (f10_ok  eF hs) ?_
     clear hs; rintro _ w ⟨e5, eo, hs, rfl⟩
     refine oV (xPt (v := .bool dV) ((rfl : ev _ _ _ = _).trans (congrArg Value.bool bC)) rfl) rfl <| oN ?_
     obtain rfl := oJ a1
     exact ⟨e5, rfl, eo, hs, rfl, cc⟩
   rw [if_neg bC] at a1
   refine oO (b := false) (yO rfl rfl (bF bC)) rfl <| oV (xPf (v := .bool false) ((rfl : ev _ _ _ = _).trans (congrArg Value.bool (bF bC))) rfl) rfl <| oN ?_
   obtain rfl := oJ a1
   exact ⟨cH, rfl, iR, hs, rfl, cc⟩
 clear a1 hs
 rintro f ds w ⟨c3, rfl, ep, hs, htbb6245, eY⟩
 refine asB htbb6245 <| oN <| sK <| cw_ret <| rK (rs := [.tmp 20]) (vs := [.bool cW]) (.inr rfl) rfl ⟨rfl, trivial⟩ ?_
 obtain rfl := oJ hm
 replace hs := hs.erase 0
 replace hs := hs.erase 0
 replace hs := hs.erase 0
 replace hs := hs.erase 0
 replace hs := hs.erase 0
 replace hs := hs.erase 0
 exact ⟨c3, (((((((((((((((((((eh.trans cG).trans bU).trans bT).trans bu).trans cA).trans dP).trans dO).trans cz).trans bN).trans bs).trans be).trans a3).trans a2).trans eu).trans et).trans es).trans er).trans eq).trans ep), hs, rfl⟩
end Go.HL.Tz
