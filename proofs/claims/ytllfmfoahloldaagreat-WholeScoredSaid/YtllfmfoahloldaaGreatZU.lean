/- The walks of some functions, printed by a program of ours (gox). -/
import Derived.Test.YtllfmfoahloldaaGreatZT
set_option linter.unusedVariables false
set_option linter.unusedSimpArgs false
set_option maxRecDepth 100000
set_option maxHeartbeats 400000
namespace Go.HL.Tz
open Go.HL
attribute [local irreducible] OW CW CV
theorem en41 : Proofs.Enters P 41 := Proofs.enters_of Proofs.Tryz.func41 (by kernel_rfl) rfl
theorem en42 : Proofs.Enters P 42 := Proofs.enters_of Proofs.Tryz.func42 (by kernel_rfl) rfl
theorem st161 : StrT P 161 [(0, 1), (1, 1), (2, 1)] := ⟨by kernel_rfl⟩
theorem ty161 : TyC P 161 true [iN 0, .slice none 0 0, .slice none 0 0] := ⟨by kernel_rfl, by kernel_rfl, (fun h => by cases h), by kernel_rfl⟩
theorem fl161_1 : FldT P 161 1 1 := ⟨by kernel_rfl⟩
theorem el24 : ElT P 24 [.slice none 0 0] 24 := ⟨by kernel_rfl⟩
theorem fl161_2 : FldT P 161 2 2 := ⟨by kernel_rfl⟩
theorem fl164_5 : FldT P 164 5 5 := ⟨by kernel_rfl⟩
theorem ty162 : TyC P 162 false [.nilFunc] := ⟨by kernel_rfl, by kernel_rfl, (fun _ => rfl), by kernel_rfl⟩
theorem en75 : Proofs.Enters P 75 := Proofs.enters_of Proofs.Tryz.func75 (by kernel_rfl) rfl
theorem en44 : Proofs.Enters P 44 := Proofs.enters_of Proofs.Tryz.func44 (by kernel_rfl) rfl
theorem fl161_0 : FldT P 161 0 0 := ⟨by kernel_rfl⟩
theorem en114 : Proofs.Enters P 114 := Proofs.enters_of Proofs.Tryz.func114 (by kernel_rfl) rfl
theorem en76 : Proofs.Enters P 76 := Proofs.enters_of Proofs.Tryz.func76 (by kernel_rfl) rfl
theorem en78 : Proofs.Enters P 78 := Proofs.enters_of Proofs.Tryz.func78 (by kernel_rfl) rfl
theorem en79 : Proofs.Enters P 79 := Proofs.enters_of Proofs.Tryz.func79 (by kernel_rfl) rfl
def f75_l0 (K : Int) (x : List Int) (e : Int) (u : Int) (s : List Int) : Nat → Int → (List (List Int)) → Option (Int × List (List Int) × List Int)
  | 0, _, _ => none
  | k + 1, d, c => (if d < (s.length : Int) then (if 0 ≤ d ∧ d < (s.length : Int) then (if 0 ≤ e ∧ e < (c.length : Int) then (if 0 ≤ d ∧ d < ((at' c e).length : Int) then (if 0 ≤ (at' s d) then (if 0 ≤ e ∧ e < ((c.set e.toNat ((at' c e).set d.toNat u)).length : Int) then (if 0 ≤ (at' s d) ∧ (at' s d) < (x.length : Int) then (if 0 ≤ d ∧ d < ((at' (c.set e.toNat ((at' c e).set d.toNat u)) e).length : Int) then (f75_l0 K x e u s k (w64 (d + 1)) ((c.set e.toNat ((at' c e).set d.toNat u)).set e.toNat ((at' (c.set e.toNat ((at' c e).set d.toNat u)) e).set d.toNat (at' x (at' s d))))) else none) else none) else none) else (f75_l0 K x e u s k (w64 (d + 1)) (c.set e.toNat ((at' c e).set d.toNat u)))) else none) else none) else none) else some (K, c, x))
def f75_m (K : Int) (ai : List (List Int)) (x : List Int) (ab : Int) (e : Int) (aa : Int) (Z : Int) (u : Int) (Y : Int) (X : Int) (W : Int) (V : Int) (U : Int) (M : Int) (s : List Int) : Option (Int × List (List Int) × List Int) :=
  (f75_l0 K x e u s FUEL 0 ai)
theorem f75_ok (K : Int) (ai : List (List Int)) (x : List Int) (ab : Int) (e : Int) (aa : Int) (Z : Int) (u : Int) (Y : Int) (X : Int) (W : Int) (V : Int) (U : Int) (M : Int) (s : List Int) {r : Int × List (List Int) × List Int} (hm : f75_m K ai x ab e aa Z u Y X W V U M s = some r) {H : Nat} {y : Option Addr} {A : Nat} {B : Nat} {ax : List Rh} {C : Option Addr} {G : Nat} {E : Option Addr} {D : Nat} {I : Im} {F : List HP} {w : World} (hs : Sat I (blk H 161 (cL19 K y A B C x.length G) :: rowsP y A B ax ai :: osl 3 1 C x.length G (x.flatMap e64) :: F) w) (ac : Rs I 1 E s.length D (s.flatMap e64)) :
    CV P 75 [pQ H 0, .agg (cL13 ab e aa Z u Y X W V U M E s.length D).toArray] w fun v w' => ∃ (J : Im) (rso_px0_1 : List Rh) (ao_px0_2 : Option Addr) (co_px0_2 : Nat), Im.le I J ∧ Sat J (blk H 161 (cL19 r.1 y A B ao_px0_2 r.2.2.length co_px0_2) :: rowsP y A B rso_px0_1 r.2.1 :: osl 3 1 ao_px0_2 r.2.2.length co_px0_2 (r.2.2.flatMap e64) :: F) w' ∧ v = .tuple #[] := by
 unfold f75_m at hm
 refine cv_of (n := 46) Proofs.Tryz.func75 rfl rfl (nLe rfl) <| cQ <| cR <| oB (v := .agg (cL13 ab e aa Z u Y X W V U M E s.length D).toArray) (cs := (cL13 ab e aa Z u Y X W V U M E s.length D)) hs rfl rfl ?_
 clear hs; intro b1 w hs
 refine oN <| sQR <| cR <| oF (b := b1) (o := 0) fl168_7 rfl <| ld1 (k := 0) hs rfl rfl ty24 rfl <| oV (x_len sl24 rfl) rfl <| mI rfl <| oN <| sK <| cw_block ?_
 refine cL (S := fun k f ds w => ∃ (d : Int) (c : List (List Int)), ∃ (j : List Rh) (aA : Im), ds = [] ∧ Im.le I aA ∧ f75_l0 K x e u s k d c = some r ∧ Sat aA (blk b1 168 (cL13 ab e aa Z u Y X W V U M E s.length D) :: blk H 161 (cL19 K y A B C x.length G) :: rowsP y A B j c :: osl 3 1 C x.length G (x.flatMap e64) :: F) w ∧ f 0 = pQ H 0 ∧ f 3 = pQ b1 0 ∧ f 7 = .slice E s.length D ∧ f 8 = iN (s.length : Int) ∧ f 9 = iN d) ?_ (k := FUEL) ⟨0, ai, ax, I, rfl, iR, hm, hs, rfl, rfl, rfl, rfl, rfl⟩
 clear hm hs
 rintro k f ds w ⟨d, c, j, aA, rfl, ah, hm, hs, Q, O, ag, af, N⟩
 rcases k with _ | k
 · unfold f75_l0 at hm; cases hm
 unfold f75_l0 at hm
 refine cQ <| cR <| oV (x_lss N af) rfl <| oN <| sQR ?_
 by_cases az : d < (s.length : Int)
 · rw [if_pos az] at hm
   refine cIt rfl (dT az) <| cw_skip <| sQR <| cw_block <| cQ <| cR <| mI N ?_
   have am := (iS hm).1
   replace hm := (iS hm).2
   replace ac := ac.mono ah
   refine oI (i := d) sl24 ty3 ag N am.1 am.2 (Rs.some ac (by have := am; omega)) <| oLR (p := d.toNat * 1) (vs := [iN (at' s d)]) (v := iN (at' s d)) hs ac rfl ty3 (flat_at (enc := e64) (sz := 1) (fun _ => rfl) s d am.1 am.2 0 1 (by decide)) rfl rfl <| asI rfl <| asI rfl <| oN <| sQR ?_
   replace hs := hs.front (k := 2) rfl
   have T := (iS hm).1
   replace hm := (iS hm).2
   obtain ⟨aD, hs⟩ := hs.rowOut T.1 T.2
   have al := (iS hm).1
   replace hm := (iS hm).2
   refine cD mixed rfl (fun f0 L f w => ∃ (z : Im), Im.le aA z ∧ f = frL [(14, 0, pQ H 0), (15, 1, pQ H 0), (16, 2, pQ H 1), (17, 3, .slice y A B), (18, 4, pQ b1 1), (19, 5, iN e), (20, 6, .pointer (some (ea y (e.toNat * 1)))), (21, 7, .slice ((rAt j e).1) ((at' c e).length) ((rAt j e).2)), (22, 8, iN d), (23, 9, pQ b1 4), (24, 10, iN u), (25, 11, .pointer (some (ea ((rAt j e).1) (d.toNat * 1))))] L f0 ∧ Sat z (rL [(12, osl 3 1 ((rAt j e).1) (at' c e).length ((rAt j e).2) (((at' c e).set d.toNat u).flatMap e64))] (osl 3 1 ((rAt j e).1) (at' c e).length ((rAt j e).2) ((at' c e).flatMap e64)) L :: rowsH e y A B j c :: blk b1 168 (cL13 ab e aa Z u Y X W V U M E s.length D) :: blk H 161 (cL19 K y A B C x.length G) :: osl 3 1 C x.length G (x.flatMap e64) :: F) w ∧ (L 12 = true → L 11 = true)) ⟨aA, iR, (frL_ff _).symm, hs.drew, (fun h => by cases h)⟩ ⟨?_, ?_, ?_, ?_, ?_, ?_, ?_, ?_, ?_, ?_, ?_, ?_, ?_, trivial⟩ ?_
   all_goals clear hs
   · rintro L f w _ hL ⟨z, q, rfl, hs, t⟩
     refine mP Q ?_
     exact oN ⟨rfl, rfl, z, q, fS rfl rfl, hs, t⟩
   · rintro L f w ⟨aw, _⟩ hL ⟨z, q, rfl, hs, t⟩
     refine oV (x_nilCheck (fG rfl aw)) rfl ?_
     exact oN ⟨rfl, rfl, z, q, fS rfl rfl, hs, t⟩
   · rintro L f w ⟨av, _⟩ hL ⟨z, q, rfl, hs, t⟩
     refine oF (b := H) (o := 0) fl161_1 (fG rfl av) ?_
     exact oN ⟨rfl, rfl, z, q, fS rfl rfl, hs, t⟩
   · rintro L f w ⟨au, _⟩ hL ⟨z, q, rfl, hs, t⟩
     refine ld1 (k := 3) hs rfl (fG rfl au) ty57 rfl ?_
     exact oN ⟨rfl, rfl, z, q, fS rfl rfl, hs, t⟩
   · rintro L f w _ hL ⟨z, q, rfl, hs, t⟩
     refine oF (b := b1) (o := 0) fl168_1 O ?_
     exact oN ⟨rfl, rfl, z, q, fS rfl rfl, hs, t⟩
   · rintro L f w ⟨aq, _⟩ hL ⟨z, q, rfl, hs, t⟩
     refine ld1 (k := 2) hs rfl (fG rfl aq) ty3 rfl ?_
     exact oN ⟨rfl, rfl, z, q, fS rfl rfl, hs, t⟩
   · rintro L f w ⟨ar, ap, _⟩ hL ⟨z, q, rfl, hs, t⟩
     have aQ := hs.rowsLenH (k := 1) rfl aD
     refine oI (i := e) sl57 ty24 (fG rfl ar) (fG rfl ap) T.1 (by have := T; omega) (sep_some hs (k := 1) rfl (by have := T; omega)) ?_
     exact oN ⟨rfl, rfl, z, q, fS rfl rfl, hs, t⟩
   · rintro L f w ⟨ao, _⟩ hL ⟨z, q, rfl, hs, t⟩
     refine ow_loadRow (k := 1) (i := e) hs rfl aD (fG rfl ao) ty24 T.1 T.2 ?_
     exact oN ⟨rfl, rfl, z, q, fS rfl rfl, hs, t⟩
   · rintro L f w _ hL ⟨z, q, rfl, hs, t⟩
     refine mI rfl ?_
     exact oN ⟨rfl, rfl, z, q, fS rfl rfl, hs, t⟩
   · rintro L f w _ hL ⟨z, q, rfl, hs, t⟩
     refine oF (b := b1) (o := 0) fl168_4 O ?_
     exact oN ⟨rfl, rfl, z, q, fS rfl rfl, hs, t⟩
   · rintro L f w ⟨an, _⟩ hL ⟨z, q, rfl, hs, t⟩
     refine ld1 (k := 2) hs rfl (fG rfl an) ty3 rfl ?_
     exact oN ⟨rfl, rfl, z, q, fS rfl rfl, hs, t⟩
   · rintro L f w ⟨aF, aE, aw, av, au, ar, aq, ap, ao, _, _, an, ae, _⟩ hL ⟨z, q, rfl, hs, t⟩
     replace hs := hs.eqv (k := 0) rfl ((rL_f (show L 12 = false from pF t hL) (rL_n)))
     refine oI (i := d) sl24 ty3 (fG rfl aF) (fG rfl aE) al.1 al.2 (osl_some hs (k := 0) rfl (by have := al; omega)) ?_
     replace hs := hs.eqv (k := 0) rfl (Eq.symm (a := rL [(12, osl 3 1 ((rAt j e).1) (at' c e).length ((rAt j e).2) (((at' c e).set d.toNat u).flatMap e64))] (osl 3 1 ((rAt j e).1) (at' c e).length ((rAt j e).2) ((at' c e).flatMap e64)) (setL L 11)) (((rL_f (L := setL L 11) (show L 12 = false from pF t hL) (rL_n)))))
     exact oN ⟨rfl, rfl, z, q, fS rfl rfl, hs, (fun _ => rfl)⟩
   · rintro L f w ⟨ad, ae, aw, av, au, ar, aq, ap, ao, aF, aE, an, _, _⟩ hL ⟨z, q, rfl, hs, t⟩
     replace hs := hs.eqv (k := 0) rfl ((rL_f hL (rL_n)))
     refine ow_storeT (k := 0) (enc := e64) (xx := u) (i := d) (m := (at' c e).length) (vs := [iN u]) hs rfl (fG rfl ad) (fG rfl ae) ty3 rfl rfl rfl (fun _ => rfl) (by decide) al.1 al.2 ?_
     clear hs; intro w hs
     exact oN ⟨rfl, rfl, z, q, frL_no rfl, hs, (fun _ => ad)⟩
   rintro L f w hall ⟨aN, aB, rfl, hs, _⟩
   rw [frL_tt _ rfl hall]
   replace hs := hs.eqv (k := 0) rfl (rL_t (hall 12 (nLe rfl)))
   refine sQR ?_
   replace hs := hs.front (k := 1) rfl
   replace hs := hs.front (k := 1) rfl
   replace hs := hs.rowIn (n := 0) T.1 T.2 aD (by simp)
   refine cR <| mI rfl <| oV (x_geq rfl rfl) rfl <| oN <| sK ?_
   by_cases ay : 0 ≤ (at' s d)
   · rw [if_pos ay] at hm
     refine cIt rfl (dT ay) ?_
     have R := (iS hm).1
     replace hm := (iS hm).2
     obtain ⟨aC, hs⟩ := hs.rowOut R.1 R.2
     have ak := (iS hm).1
     replace hm := (iS hm).2
     have aj := (iS hm).1
     replace hm := (iS hm).2
     refine cD mixed rfl (fun f0 L f w => ∃ (z : Im), Im.le aN z ∧ f = frL [(28, 0, pQ H 0), (29, 1, pQ H 0), (30, 2, pQ H 1), (31, 3, .slice y A B), (32, 4, pQ b1 1), (33, 5, iN e), (34, 6, .pointer (some (ea y (e.toNat * 1)))), (35, 7, .slice ((rAt j e).1) ((at' (c.set e.toNat ((at' c e).set d.toNat u)) e).length) ((rAt j e).2)), (36, 8, iN d), (37, 9, pQ H 0), (38, 10, pQ H 0), (39, 11, pQ H 2), (40, 12, .slice C x.length G), (41, 13, iN (at' s d)), (42, 14, .pointer (some (ea C ((at' s d).toNat * 1)))), (43, 15, iN (at' x (at' s d))), (44, 16, .pointer (some (ea ((rAt j e).1) (d.toNat * 1))))] L f0 ∧ Sat z (rL [(17, osl 3 1 ((rAt j e).1) (at' (c.set e.toNat ((at' c e).set d.toNat u)) e).length ((rAt j e).2) (((at' (c.set e.toNat ((at' c e).set d.toNat u)) e).set d.toNat (at' x (at' s d))).flatMap e64))] (osl 3 1 ((rAt j e).1) (at' (c.set e.toNat ((at' c e).set d.toNat u)) e).length ((rAt j e).2) ((at' (c.set e.toNat ((at' c e).set d.toNat u)) e).flatMap e64)) L :: rowsH e y A B j (c.set e.toNat ((at' c e).set d.toNat u)) :: blk b1 168 (cL13 ab e aa Z u Y X W V U M E s.length D) :: blk H 161 (cL19 K y A B C x.length G) :: osl 3 1 C x.length G (x.flatMap e64) :: F) w ∧ (L 17 = true → L 16 = true)) ⟨aN, iR, (frL_ff _).symm, hs.drew, (fun h => by cases h)⟩ ⟨?_, ?_, ?_, ?_, ?_, ?_, ?_, ?_, ?_, ?_, ?_, ?_, ?_, ?_, ?_, ?_, ?_, ?_, trivial⟩ ?_
     all_goals clear hs
     · rintro L f w _ hL ⟨z, q, rfl, hs, l⟩
       refine mP Q ?_
       exact oN ⟨rfl, rfl, z, q, fS rfl rfl, hs, l⟩
     · rintro L f w ⟨aw, _⟩ hL ⟨z, q, rfl, hs, l⟩
       refine oV (x_nilCheck (fG rfl aw)) rfl ?_
       exact oN ⟨rfl, rfl, z, q, fS rfl rfl, hs, l⟩
     · rintro L f w ⟨av, _⟩ hL ⟨z, q, rfl, hs, l⟩
       refine oF (b := H) (o := 0) fl161_1 (fG rfl av) ?_
       exact oN ⟨rfl, rfl, z, q, fS rfl rfl, hs, l⟩
     · rintro L f w ⟨au, _⟩ hL ⟨z, q, rfl, hs, l⟩
       refine ld1 (k := 3) hs rfl (fG rfl au) ty57 rfl ?_
       exact oN ⟨rfl, rfl, z, q, fS rfl rfl, hs, l⟩
     · rintro L f w _ hL ⟨z, q, rfl, hs, l⟩
       refine oF (b := b1) (o := 0) fl168_1 O ?_
       exact oN ⟨rfl, rfl, z, q, fS rfl rfl, hs, l⟩
     · rintro L f w ⟨aq, _⟩ hL ⟨z, q, rfl, hs, l⟩
       refine ld1 (k := 2) hs rfl (fG rfl aq) ty3 rfl ?_
       exact oN ⟨rfl, rfl, z, q, fS rfl rfl, hs, l⟩
     · rintro L f w ⟨ar, ap, _⟩ hL ⟨z, q, rfl, hs, l⟩
       have aP := hs.rowsLenH (k := 1) rfl aC
       refine oI (i := e) sl57 ty24 (fG rfl ar) (fG rfl ap) R.1 (by have := R; omega) (sep_some hs (k := 1) rfl (by have := R; omega)) ?_
       exact oN ⟨rfl, rfl, z, q, fS rfl rfl, hs, l⟩
     · rintro L f w ⟨ao, _⟩ hL ⟨z, q, rfl, hs, l⟩
       refine ow_loadRow (k := 1) (i := e) hs rfl aC (fG rfl ao) ty24 R.1 R.2 ?_
       exact oN ⟨rfl, rfl, z, q, fS rfl rfl, hs, l⟩
     · rintro L f w _ hL ⟨z, q, rfl, hs, l⟩
       refine mI rfl ?_
       exact oN ⟨rfl, rfl, z, q, fS rfl rfl, hs, l⟩
     · rintro L f w _ hL ⟨z, q, rfl, hs, l⟩
       refine mP Q ?_
       exact oN ⟨rfl, rfl, z, q, fS rfl rfl, hs, l⟩
     · rintro L f w ⟨an, _⟩ hL ⟨z, q, rfl, hs, l⟩
       refine oV (x_nilCheck (fG rfl an)) rfl ?_
       exact oN ⟨rfl, rfl, z, q, fS rfl rfl, hs, l⟩
     · rintro L f w ⟨ae, _⟩ hL ⟨z, q, rfl, hs, l⟩
       refine oF (b := H) (o := 0) fl161_2 (fG rfl ae) ?_
       exact oN ⟨rfl, rfl, z, q, fS rfl rfl, hs, l⟩
     · rintro L f w ⟨ad, _⟩ hL ⟨z, q, rfl, hs, l⟩
       refine ld1 (k := 3) hs rfl (fG rfl ad) ty24 rfl ?_
       exact oN ⟨rfl, rfl, z, q, fS rfl rfl, hs, l⟩
     · rintro L f w _ hL ⟨z, q, rfl, hs, l⟩
       refine mI rfl ?_
       exact oN ⟨rfl, rfl, z, q, fS rfl rfl, hs, l⟩
     · rintro L f w ⟨aI, aH, _⟩ hL ⟨z, q, rfl, hs, l⟩
       refine oI (i := (at' s d)) sl24 ty3 (fG rfl aI) (fG rfl aH) ak.1 ak.2 (osl_some hs (k := 4) rfl (by have := ak; omega)) ?_
       exact oN ⟨rfl, rfl, z, q, fS rfl rfl, hs, l⟩
     · rintro L f w ⟨aG, _⟩ hL ⟨z, q, rfl, hs, l⟩
       refine ow_loadO (k := 4) (p := (at' s d).toNat * 1) (vs := [iN (at' x (at' s d))]) (v := iN (at' x (at' s d))) hs rfl (fG rfl aG) ty3 (flat_at (enc := e64) (sz := 1) (fun _ => rfl) x (at' s d) ak.1 ak.2 0 1 (by decide)) rfl rfl ?_
       exact oN ⟨rfl, rfl, z, q, fS rfl rfl, hs, l⟩
     · rintro L f w ⟨aF, aE, aw, av, au, ar, aq, ap, ao, _, _, an, ae, ad, aI, aH, aG, aL, _⟩ hL ⟨z, q, rfl, hs, l⟩
       replace hs := hs.eqv (k := 0) rfl ((rL_f (show L 17 = false from pF l hL) (rL_n)))
       refine oI (i := d) sl24 ty3 (fG rfl aF) (fG rfl aE) aj.1 aj.2 (osl_some hs (k := 0) rfl (by have := aj; omega)) ?_
       replace hs := hs.eqv (k := 0) rfl (Eq.symm (a := rL [(17, osl 3 1 ((rAt j e).1) (at' (c.set e.toNat ((at' c e).set d.toNat u)) e).length ((rAt j e).2) (((at' (c.set e.toNat ((at' c e).set d.toNat u)) e).set d.toNat (at' x (at' s d))).flatMap e64))] (osl 3 1 ((rAt j e).1) (at' (c.set e.toNat ((at' c e).set d.toNat u)) e).length ((rAt j e).2) ((at' (c.set e.toNat ((at' c e).set d.toNat u)) e).flatMap e64)) (setL L 16)) (((rL_f (L := setL L 16) (show L 17 = false from pF l hL) (rL_n)))))
       exact oN ⟨rfl, rfl, z, q, fS rfl rfl, hs, (fun _ => rfl)⟩
     · rintro L f w ⟨aK, aL, aw, av, au, ar, aq, ap, ao, aF, aE, an, ae, ad, aI, aH, aG, _, _⟩ hL ⟨z, q, rfl, hs, l⟩
       replace hs := hs.eqv (k := 0) rfl ((rL_f hL (rL_n)))
       refine ow_storeT (k := 0) (enc := e64) (xx := (at' x (at' s d))) (i := d) (m := (at' (c.set e.toNat ((at' c e).set d.toNat u)) e).length) (vs := [iN (at' x (at' s d))]) hs rfl (fG rfl aK) (fG rfl aL) ty3 rfl rfl rfl (fun _ => rfl) (by decide) aj.1 aj.2 ?_
       clear hs; intro w hs
       exact oN ⟨rfl, rfl, z, q, frL_no rfl, hs, (fun _ => aK)⟩
     rintro L f w hall ⟨aO, aM, rfl, hs, _⟩
     rw [frL_tt _ rfl hall]
     replace hs := hs.eqv (k := 0) rfl (rL_t (hall 17 (nLe rfl)))
     refine blockK_n <| sK ?_
     replace hs := hs.front (k := 1) rfl
     replace hs := hs.front (k := 1) rfl
     replace hs := hs.rowIn (n := 0) R.1 R.2 aC (by simp)
     refine cR <| oV (x_add N rfl) rfl <| mI rfl <| oN ?_
     replace hs := hs.front (k := 3) rfl
     replace hs := hs.front (k := 1) rfl
     replace hs := hs.front (k := 3) rfl
     replace hs := hs.front (k := 3) rfl
     exact lN ⟨k, Nat.lt_succ_self k, w64 (d + 1), (c.set e.toNat ((at' c e).set d.toNat u)).set e.toNat ((at' (c.set e.toNat ((at' c e).set d.toNat u)) e).set d.toNat (at' x (at' s d))), j, aO, rfl, ((ah.trans aB).trans aM), hm, hs, Q, O, ag, af, rfl⟩
   rw [if_neg ay] at hm
   refine cIf rfl (dF ay) <| cw_skip <| blockK_n <| sK <| cR <| oV (x_add N rfl) rfl <| mI rfl <| oN ?_
   replace hs := hs.front (k := 3) rfl
   replace hs := hs.front (k := 1) rfl
   replace hs := hs.front (k := 3) rfl
   replace hs := hs.front (k := 3) rfl
   exact lN ⟨k, Nat.lt_succ_self k, w64 (d + 1), c.set e.toNat ((at' c e).set d.toNat u), j, aN, rfl, (ah.trans aB), hm, hs, Q, O, ag, af, rfl⟩
 rw [if_neg az] at hm
 refine cIf rfl (dF az) <| cw_exit <| seqK_x <| loopK_x <| blockK_hit <| rK (rs := []) (vs := []) (.inl rfl) rfl trivial ?_
 obtain rfl := oJ hm
 replace hs := hs.erase 0
 exact ⟨aA, j, C, G, ah, hs, rfl⟩
def f114_l0 (e : List (List Int)) (y : Int) : Nat → Int → (List Int) → Option (List Int)
  | 0, _, _ => none
  | k + 1, c, d => (if c < ((at' e y).length : Int) then (if 0 ≤ c ∧ c < (d.length : Int) then (if 0 ≤ c ∧ c < (d.length : Int) then (f114_l0 e y k (w64 (c + 1)) (d.set c.toNat (max (-2147483648) (min (at' d c) 2147483648)))) else none) else none) else some d)
def f114_m (q : Int) (e : List (List Int)) (s : List Int) (y : Int) : Option (Int × Int × List Int × Int × List (List Int) × List Int) :=
  (if 0 ≤ y ∧ y < (e.length : Int) then (if (at' e y).length ≤ 1099511627776 then ((f114_l0 e y FUEL 0 (at' e y)).bind fun (N : List Int) => some (q, 1, N, q, e, s)) else none) else none)
theorem f114_ok (q : Int) (e : List (List Int)) (s : List Int) (y : Int) {r : Int × Int × List Int × Int × List (List Int) × List Int} (hm : f114_m q e s y = some r) {C : Nat} {l : Option Addr} {h : Nat} {j : Nat} {t : List Rh} {x : Option Addr} {u : Nat} {I : Im} {F : List HP} {w : World} (hs : Sat I (blk C 161 (cL19 q l h j x s.length u) :: rowsP l h j t e :: osl 3 1 x s.length u (s.flatMap e64) :: F) w)  :
    CV P 114 [pQ C 0, iN y] w fun v w' => ∃ (J : Im) (a2 : Option Addr) (c2 : Nat) (rso_px0_1 : List Rh) (ao_px0_2 : Option Addr) (co_px0_2 : Nat), Im.le I J ∧ Sat J (blk C 161 (cL19 r.2.2.2.1 l h j ao_px0_2 r.2.2.2.2.2.length co_px0_2) :: rowsP l h j rso_px0_1 r.2.2.2.2.1 :: osl 3 1 ao_px0_2 r.2.2.2.2.2.length co_px0_2 (r.2.2.2.2.2.flatMap e64) :: F) w' ∧ v = .agg (cL0 r.1 r.2.1 a2 r.2.2.1.length c2).toArray ∧ Rs J 1 a2 r.2.2.1.length c2 (r.2.2.1.flatMap e64) := by
 unfold f114_m at hm
 refine cv_of (n := 36) Proofs.Tryz.func114 rfl rfl (nLe rfl) <| cQ <| cR <| ow_alloc hs ty26 rfl ?_
 clear hs; intro b1 w hs
 refine oN <| sQR ?_
 replace hs := hs.front (k := 2) rfl
 have B := (iS hm).1
 replace hm := (iS hm).2
 obtain ⟨Z, hs⟩ := hs.rowOut B.1 B.2
 refine cR <| mP rfl <| oV (x_nilCheck rfl) rfl <| oF (b := C) (o := 0) fl161_1 rfl <| ld1 (k := 3) hs rfl rfl ty57 rfl <| mI rfl ?_
 have al := hs.rowsLenH (k := 1) rfl Z
 refine oI (i := y) sl57 ty24 rfl rfl B.1 (by have := B; omega) (sep_some hs (k := 1) rfl (by have := B; omega)) <| ow_loadRow (k := 1) (i := y) hs rfl Z rfl ty24 B.1 B.2 ?_
 have ad := (iS hm).1
 replace hm := (iS hm).2
 refine oC (fi := []) (vs := [.slice ((rAt t y).1) ((at' e y).length) ((rAt t y).2)]) (ca := []) rfl ⟨rfl, trivial⟩ en44 (f44_own (k := 0) (xs := (at' e y)) hs rfl ad) ?_
 clear hs; rintro _ w ⟨U, T, hs, rfl⟩
 refine asS rfl <| oN <| sK ?_
 replace hs := hs.front (k := 2) rfl
 replace hs := hs.front (k := 2) rfl
 replace hs := hs.rowIn0 B.1 B.2 Z
 obtain ⟨N, ac, ab⟩ := bS hm
 replace hm := ac; clear ac
 refine cJ (fun f ds w => ∃ (aa : Im), ds = [] ∧ Im.le I aa ∧ Sat aa (rowsP l h j t e :: osl 3 1 U (at' e y).length T (N.flatMap e64) :: blk b1 26 (cL0 0 0 none 0 0) :: blk C 161 (cL19 q l h j x s.length u) :: osl 3 1 x s.length u (s.flatMap e64) :: F) w ∧ f 0 = pQ C 0 ∧ f 4 = pQ b1 0 ∧ f 5 = .slice U ((at' e y).length) T) ?_ ?_
 · refine cQ <| cR <| mS rfl <| oV (x_len sl24 rfl) rfl <| mI rfl <| oN <| sK <| cw_block ?_
   refine cL (S := fun k f ds w => ∃ (c : Int) (d : List Int), ∃ (V : Im), ds = [] ∧ Im.le I V ∧ f114_l0 e y k c d = some N ∧ Sat V (rowsP l h j t e :: osl 3 1 U (at' e y).length T (d.flatMap e64) :: blk b1 26 (cL0 0 0 none 0 0) :: blk C 161 (cL19 q l h j x s.length u) :: osl 3 1 x s.length u (s.flatMap e64) :: F) w ∧ f 0 = pQ C 0 ∧ f 4 = pQ b1 0 ∧ f 5 = .slice U ((at' e y).length) T ∧ f 16 = iN ((at' e y).length : Int) ∧ f 17 = iN c) ?_ (k := FUEL) ⟨0, at' e y, I, rfl, iR, hm, hs, rfl, rfl, rfl, rfl, rfl⟩
   clear hm hs
   rintro k f ds w ⟨c, d, V, rfl, R, hm, hs, L, K, z, E, A⟩
   rcases k with _ | k
   · unfold f114_l0 at hm; cases hm
   unfold f114_l0 at hm
   refine cQ <| cR <| oV (x_lss A E) rfl <| oN <| sQR ?_
   by_cases M : c < ((at' e y).length : Int)
   · rw [if_pos M] at hm
     refine cIt rfl (dT M) <| cw_skip <| sQR <| cw_block <| cQ <| cR <| mI A <| asI rfl <| oN <| sK <| cR ?_
     refine mS z <| mI rfl <| mS z <| mI rfl ?_
     have H := (iS hm).1
     replace hm := (iS hm).2
     have ai := osl_n (k := 1) hs rfl (fun _ => rfl) (by decide)
     refine oI (i := c) sl24 ty3 rfl rfl H.1 (by have := H; omega) (osl_some hs (k := 1) rfl (by have := H; omega)) <| ow_loadO (k := 1) (p := c.toNat * 1) (vs := [iN (at' d c)]) (v := iN (at' d c)) hs rfl rfl ty3 (flat_at (enc := e64) (sz := 1) (fun _ => rfl) d c H.1 H.2 0 1 (by decide)) rfl rfl <| oV (x_min2 (k := .i64) (a := (at' d c)) (b := 2147483648) rfl rfl) rfl <| oV (x_max2 (k := .i64) (a := (-2147483648)) (b := (min (at' d c) 2147483648)) rfl rfl) rfl ?_
     have G := (iS hm).1
     replace hm := (iS hm).2
     have ah := osl_n (k := 1) hs rfl (fun _ => rfl) (by decide)
     refine oI (i := c) sl24 ty3 rfl rfl G.1 (by have := G; omega) (osl_some hs (k := 1) rfl (by have := G; omega)) <| ow_storeT (k := 1) (enc := e64) (xx := max (-2147483648) (min (at' d c) 2147483648)) (i := c) (m := (at' e y).length) (vs := [iN (max (-2147483648) (min (at' d c) 2147483648))]) hs rfl rfl rfl ty3 rfl rfl rfl (fun _ => rfl) (by decide) G.1 G.2 ?_
     clear hs; intro w hs
     refine oN <| blockK_n <| sK <| cR <| oV (x_add A rfl) rfl <| mI rfl <| oN ?_
     exact lN ⟨k, Nat.lt_succ_self k, w64 (c + 1), d.set c.toNat (max (-2147483648) (min (at' d c) 2147483648)), V, rfl, R, hm, hs, L, K, z, E, rfl⟩
   rw [if_neg M] at hm
   refine cIf rfl (dF M) <| cw_exit <| seqK_x <| loopK_x <| blockK_hit ?_
   obtain rfl := oJ hm
   refine jN ⟨V, rfl, R, hs, L, K, z⟩
 clear hm hs
 rintro f ds w ⟨aa, rfl, Y, hs, Q, D, O⟩
 replace hm := ab
 refine cQ <| cR <| mP Q <| oV (x_nilCheck rfl) rfl <| oF (b := C) (o := 0) fl161_0 rfl <| ld1 (k := 3) hs rfl rfl ty3 rfl <| mS O <| oU (vp := [(0, iN q), (1, iN 1), (2, .slice U ((at' e y).length) T)]) (cs := (cL0 q 1 U ((at' e y).length) T)) st26 ty26 ⟨rfl, rfl, rfl, rfl, rfl, rfl, trivial⟩ rfl <| oS (k := 2) (vs := (cL0 q 1 U ((at' e y).length) T)) (cs' := (cL0 q 1 U ((at' e y).length) T)) hs rfl D rfl ty26 rfl rfl (nLe rfl) rfl rfl ?_
 clear hs; intro w hs
 refine oN <| sK <| cw_ret ?_
 have W := osl_n (k := 1) hs rfl (fun _ => rfl) (by decide)
 replace hs := hs.eqv (k := 1) rfl (by rw [W])
 replace hs := hs.eqv (k := 2) rfl (by rw [W])
 refine rK (rs := [.cell 4 26]) (vs := [.agg (cL0 q 1 U N.length T).toArray]) (.inr rfl) rfl ⟨⟨_, true, _, (cL0 q 1 U N.length T), D, ty26, CA_blk (off := 0) (m := 3) (hs.blk (k := 2) rfl), rfl, rfl⟩, trivial⟩ ?_
 obtain rfl := oJ hm
 replace hs := hs.front (k := 1) rfl
 obtain ⟨ag, X, ae, hs⟩ := hs.freezeO
 replace hs := hs.erase 1
 replace hs := hs.front (k := 2) rfl
 replace hs := hs.front (k := 1) rfl
 replace hs := hs.front (k := 2) rfl
 exact ⟨ag, U, T, t, x, u, (Y.trans X), hs, rfl, ae⟩
def f76_l0 (d : List Int) (y : Int × Int × List Int × Int × List (List Int) × List Int) : Nat → Int → (List Int) → Option (Int × List (List Int) × List Int)
  | 0, _, _ => none
  | k + 1, c, e => (if c < (d.length : Int) then (if 0 ≤ c ∧ c < (d.length : Int) then (if 0 ≤ (at' d c) then (if 0 ≤ c ∧ c < (y.2.2.1.length : Int) then (if 0 ≤ (at' d c) ∧ (at' d c) < (e.length : Int) then (f76_l0 d y k (w64 (c + 1)) (e.set (at' d c).toNat (at' y.2.2.1 c))) else none) else none) else (f76_l0 d y k (w64 (c + 1)) e)) else none) else some (y.2.2.2.1, y.2.2.2.2.1, e))
def f76_m (ak : Int) (aj : List (List Int)) (ac : List Int) (X : Int) (W : Int) (E : Int) (V : Int) (U : Int) (T : Int) (R : Int) (Q : Int) (O : Int) (N : Int) (D : Int) (d : List Int) : Option (Int × List (List Int) × List Int) :=
  ((f114_m ak aj ac E).bind fun y => (f76_l0 d y FUEL 0 y.2.2.2.2.2))
theorem f76_ok (ak : Int) (aj : List (List Int)) (ac : List Int) (X : Int) (W : Int) (E : Int) (V : Int) (U : Int) (T : Int) (R : Int) (Q : Int) (O : Int) (N : Int) (D : Int) (d : List Int) {r : Int × List (List Int) × List Int} (hm : f76_m ak aj ac X W E V U T R Q O N D d = some r) {ab : Nat} {x : Option Addr} {t : Nat} {u : Nat} {ap : List Rh} {ao : Option Addr} {an : Nat} {A : Option Addr} {z : Nat} {I : Im} {F : List HP} {w : World} (hs : Sat I (blk ab 161 (cL19 ak x t u ao ac.length an) :: rowsP x t u ap aj :: osl 3 1 ao ac.length an (ac.flatMap e64) :: F) w) (K : Rs I 1 A d.length z (d.flatMap e64)) :
    CV P 76 [pQ ab 0, .agg (cL13 X W E V U T R Q O N D A d.length z).toArray] w fun v w' => ∃ (J : Im) (rso_px0_1 : List Rh) (ao_px0_2 : Option Addr) (co_px0_2 : Nat), Im.le I J ∧ Sat J (blk ab 161 (cL19 r.1 x t u ao_px0_2 r.2.2.length co_px0_2) :: rowsP x t u rso_px0_1 r.2.1 :: osl 3 1 ao_px0_2 r.2.2.length co_px0_2 (r.2.2.flatMap e64) :: F) w' ∧ v = .tuple #[] := by
 unfold f76_m at hm
 refine cv_of (n := 33) Proofs.Tryz.func76 rfl rfl (nLe rfl) <| cQ <| cR <| oB (v := .agg (cL13 X W E V U T R Q O N D A d.length z).toArray) (cs := (cL13 X W E V U T R Q O N D A d.length z)) hs rfl rfl ?_
 clear hs; intro b1 w hs
 refine oN <| sQR <| cR <| mP rfl <| oF (b := b1) (o := 0) fl168_2 rfl <| ld1 (k := 0) hs rfl rfl ty3 rfl ?_
 replace hs := hs.front (k := 3) rfl
 replace hs := hs.front (k := 3) rfl
 replace hs := hs.front (k := 3) rfl
 obtain ⟨y, aG, hm⟩ := bS hm
 refine oC (fi := []) (vs := [pQ ab 0, iN E]) (ca := []) rfl ⟨rfl, rfl, trivial⟩ en114 (f114_ok _ _ _ _ aG hs) ?_
 clear hs; rintro _ w ⟨J5, H, aa, B, l, q, ar, hs, rfl, hRz7_2⟩
 refine ow_fieldV (sz := 0) (off := 2) (ft := 24) (cs := (cL0 y.1 y.2.1 H y.2.2.1.length aa)) (vs := [.slice H y.2.2.1.length aa]) (v := .slice H y.2.2.1.length aa) (by kernel_rfl) ty24 rfl rfl rfl rfl <| asS rfl <| oN <| sQR <| cR <| oF (b := b1) (o := 0) fl168_7 rfl <| ld1 (k := 3) hs rfl rfl ty24 rfl <| oV (x_len sl24 rfl) rfl <| mI rfl <| oN <| sK ?_
 refine cw_block ?_
 refine cL (S := fun k f ds w => ∃ (c : Int) (e : List Int), ∃ (ai : Im), ds = [] ∧ Im.le J5 ai ∧ f76_l0 d y k c e = some r ∧ Sat ai (blk ab 161 (cL19 y.2.2.2.1 x t u l y.2.2.2.2.2.length q) :: rowsP x t u B y.2.2.2.2.1 :: osl 3 1 l y.2.2.2.2.2.length q (e.flatMap e64) :: blk b1 168 (cL13 X W E V U T R Q O N D A d.length z) :: F) w ∧ f 0 = pQ ab 0 ∧ f 4 = .slice H y.2.2.1.length aa ∧ f 13 = .slice A d.length z ∧ f 14 = iN (d.length : Int) ∧ f 15 = iN c) ?_ (k := FUEL) ⟨0, y.2.2.2.2.2, J5, rfl, iR, hm, hs, rfl, rfl, rfl, rfl, rfl⟩
 clear hm hs
 rintro k f ds w ⟨c, e, ai, rfl, G, hm, hs, ae, ad, Z, Y, C⟩
 rcases k with _ | k
 · unfold f76_l0 at hm; cases hm
 unfold f76_l0 at hm
 refine cQ <| cR <| oV (x_lss C Y) rfl <| oN <| sQR ?_
 by_cases am : c < (d.length : Int)
 · rw [if_pos am] at hm
   refine cIt rfl (dT am) <| cw_skip <| sQR <| cw_block <| cQ <| cR <| mI C ?_
   have ah := (iS hm).1
   replace hm := (iS hm).2
   replace K := K.mono (ar.trans G)
   refine oI (i := c) sl24 ty3 Z C ah.1 ah.2 (Rs.some K (by have := ah; omega)) <| oLR (p := c.toNat * 1) (vs := [iN (at' d c)]) (v := iN (at' d c)) hs K rfl ty3 (flat_at (enc := e64) (sz := 1) (fun _ => rfl) d c ah.1 ah.2 0 1 (by decide)) rfl rfl <| asI rfl <| asI rfl <| oN <| sQR <| cR <| mI rfl <| oV (x_geq rfl rfl) rfl <| oN <| sK ?_
   by_cases al : 0 ≤ (at' d c)
   · rw [if_pos al] at hm
     refine cIt rfl (dT al) ?_
     have ag := (iS hm).1
     replace hm := (iS hm).2
     have af := (iS hm).1
     replace hm := (iS hm).2
     refine cD mixed rfl (fun f0 L f w => ∃ (M : Im), Im.le ai M ∧ f = frL [(22, 0, pQ ab 0), (23, 1, pQ ab 0), (24, 2, pQ ab 2), (25, 3, .slice l y.2.2.2.2.2.length q), (26, 4, iN (at' d c)), (27, 5, .slice H y.2.2.1.length aa), (28, 6, iN c), (29, 7, .pointer (some (ea H (c.toNat * 1)))), (30, 8, iN (at' y.2.2.1 c)), (31, 9, .pointer (some (ea l ((at' d c).toNat * 1))))] L f0 ∧ Sat M (blk ab 161 (cL19 y.2.2.2.1 x t u l y.2.2.2.2.2.length q) :: rowsP x t u B y.2.2.2.2.1 :: rL [(10, osl 3 1 l y.2.2.2.2.2.length q ((e.set (at' d c).toNat (at' y.2.2.1 c)).flatMap e64))] (osl 3 1 l y.2.2.2.2.2.length q (e.flatMap e64)) L :: blk b1 168 (cL13 X W E V U T R Q O N D A d.length z) :: F) w ∧ (L 10 = true → L 9 = true)) ⟨ai, iR, (frL_ff _).symm, hs.drew, (fun h => by cases h)⟩ ⟨?_, ?_, ?_, ?_, ?_, ?_, ?_, ?_, ?_, ?_, ?_, trivial⟩ ?_
     all_goals clear hs
     · rintro L f w _ hL ⟨M, s, rfl, hs, j⟩
       refine mP ae ?_
       exact oN ⟨rfl, rfl, M, s, fS rfl rfl, hs, j⟩
     · rintro L f w ⟨aA, _⟩ hL ⟨M, s, rfl, hs, j⟩
       refine oV (x_nilCheck (fG rfl aA)) rfl ?_
       exact oN ⟨rfl, rfl, M, s, fS rfl rfl, hs, j⟩
     · rintro L f w ⟨az, _⟩ hL ⟨M, s, rfl, hs, j⟩
       refine oF (b := ab) (o := 0) fl161_2 (fG rfl az) ?_
       exact oN ⟨rfl, rfl, M, s, fS rfl rfl, hs, j⟩
     · rintro L f w ⟨ay, _⟩ hL ⟨M, s, rfl, hs, j⟩
       refine ld1 (k := 0) hs rfl (fG rfl ay) ty24 rfl ?_
       exact oN ⟨rfl, rfl, M, s, fS rfl rfl, hs, j⟩
     · rintro L f w _ hL ⟨M, s, rfl, hs, j⟩
       refine mI rfl ?_
       exact oN ⟨rfl, rfl, M, s, fS rfl rfl, hs, j⟩
     · rintro L f w _ hL ⟨M, s, rfl, hs, j⟩
       refine mS ad ?_
       exact oN ⟨rfl, rfl, M, s, fS rfl rfl, hs, j⟩
     · rintro L f w _ hL ⟨M, s, rfl, hs, j⟩
       refine mI rfl ?_
       exact oN ⟨rfl, rfl, M, s, fS rfl rfl, hs, j⟩
     · rintro L f w ⟨ax, aw, _⟩ hL ⟨M, s, rfl, hs, j⟩
       replace hRz7_2 := hRz7_2.mono (G.trans s)
       refine oI (i := c) sl24 ty3 (fG rfl ax) (fG rfl aw) ag.1 ag.2 (Rs.some hRz7_2 (by have := ag; omega)) ?_
       exact oN ⟨rfl, rfl, M, s, fS rfl rfl, hs, j⟩
     · rintro L f w ⟨av, _⟩ hL ⟨M, s, rfl, hs, j⟩
       replace hRz7_2 := hRz7_2.mono (G.trans s)
       refine oLR (p := c.toNat * 1) (vs := [iN (at' y.2.2.1 c)]) (v := iN (at' y.2.2.1 c)) hs hRz7_2 (fG rfl av) ty3 (flat_at (enc := e64) (sz := 1) (fun _ => rfl) y.2.2.1 c ag.1 ag.2 0 1 (by decide)) rfl rfl ?_
       exact oN ⟨rfl, rfl, M, s, fS rfl rfl, hs, j⟩
     · rintro L f w ⟨aE, aD, aA, az, ay, _, _, ax, aw, av, aC, _⟩ hL ⟨M, s, rfl, hs, j⟩
       replace hs := hs.eqv (k := 2) rfl ((rL_f (show L 10 = false from pF j hL) (rL_n)))
       have aI := osl_n (k := 2) hs rfl (fun _ => rfl) (by decide)
       refine oI (i := (at' d c)) sl24 ty3 (fG rfl aE) (fG rfl aD) af.1 (by have := af; omega) (osl_some hs (k := 2) rfl (by have := af; omega)) ?_
       replace hs := hs.eqv (k := 2) rfl (Eq.symm (a := rL [(10, osl 3 1 l y.2.2.2.2.2.length q ((e.set (at' d c).toNat (at' y.2.2.1 c)).flatMap e64))] (osl 3 1 l y.2.2.2.2.2.length q (e.flatMap e64)) (setL L 9)) (((rL_f (L := setL L 9) (show L 10 = false from pF j hL) (rL_n)))))
       exact oN ⟨rfl, rfl, M, s, fS rfl rfl, hs, (fun _ => rfl)⟩
     · rintro L f w ⟨aB, aC, aA, az, ay, aE, aD, ax, aw, av, _, _⟩ hL ⟨M, s, rfl, hs, j⟩
       replace hs := hs.eqv (k := 2) rfl ((rL_f hL (rL_n)))
       refine ow_storeT (k := 2) (enc := e64) (xx := (at' y.2.2.1 c)) (i := (at' d c)) (m := y.2.2.2.2.2.length) (vs := [iN (at' y.2.2.1 c)]) hs rfl (fG rfl aB) (fG rfl aC) ty3 rfl rfl rfl (fun _ => rfl) (by decide) af.1 af.2 ?_
       clear hs; intro w hs
       exact oN ⟨rfl, rfl, M, s, frL_no rfl, hs, (fun _ => aB)⟩
     rintro L f w hall ⟨aH, au, rfl, hs, _⟩
     rw [frL_tt _ rfl hall]
     replace hs := hs.eqv (k := 2) rfl (rL_t (hall 10 (nLe rfl)))
     refine blockK_n <| sK <| cR <| oV (x_add C rfl) rfl <| mI rfl <| oN ?_
     exact lN ⟨k, Nat.lt_succ_self k, w64 (c + 1), e.set (at' d c).toNat (at' y.2.2.1 c), aH, rfl, (G.trans au), hm, hs, ae, ad, Z, Y, rfl⟩
   rw [if_neg al] at hm
   refine cIf rfl (dF al) <| cw_skip <| blockK_n <| sK <| cR <| oV (x_add C rfl) rfl <| mI rfl <| oN ?_
   exact lN ⟨k, Nat.lt_succ_self k, w64 (c + 1), e, ai, rfl, G, hm, hs, ae, ad, Z, Y, rfl⟩
 rw [if_neg am] at hm
 refine cIf rfl (dF am) <| cw_exit <| seqK_x <| loopK_x <| blockK_hit <| rK (rs := []) (vs := []) (.inl rfl) rfl trivial ?_
 have aq := osl_n (k := 2) hs rfl (fun _ => rfl) (by decide)
 replace hs := hs.eqv (k := 2) rfl (by rw [aq])
 replace hs := hs.eqv (k := 0) rfl (by rw [aq])
 obtain rfl := oJ hm
 replace hs := hs.erase 3
 exact ⟨ai, B, l, q, (ar.trans G), hs, rfl⟩
def f78_m (al : Int) (ak : List (List Int)) (Z : List Int) (ae : Int) (K : Int) (X : Int) (ad : Int) (ac : Int) (U : Int) (T : Int) (S : Int) (R : Int) (Q : Int) (Y : Int) (O : List Int) : Option (Int × List (List Int) × List Int) :=
  ((f114_m al ak Z X).bind fun r3 => ((f49_m r3.1 r3.2.1 r3.2.2.1 U T S R Q).bind fun M => (if 0 ≤ K ∧ K < (r3.2.2.2.2.1.length : Int) then some (r3.2.2.2.1, r3.2.2.2.2.1.set K.toNat M.2.2.1, r3.2.2.2.2.2) else none)))
theorem f78_ok (al : Int) (ak : List (List Int)) (Z : List Int) (ae : Int) (K : Int) (X : Int) (ad : Int) (ac : Int) (U : Int) (T : Int) (S : Int) (R : Int) (Q : Int) (Y : Int) (O : List Int) {r : Int × List (List Int) × List Int} (hm : f78_m al ak Z ae K X ad ac U T S R Q Y O = some r) {ab : Nat} {C : Option Addr} {G : Nat} {H : Nat} {ar : List Rh} {aj : Option Addr} {ai : Nat} {W : Option Addr} {V : Nat} {I : Im} {F : List HP} {w : World} (hs : Sat I (blk ab 161 (cL19 al C G H aj Z.length ai) :: rowsP C G H ar ak :: osl 3 1 aj Z.length ai (Z.flatMap e64) :: F) w) (aD : Rs I 1 W O.length V (O.flatMap e64)) :
    CV P 78 [pQ ab 0, .agg (cL13 ae K X ad ac U T S R Q Y W O.length V).toArray] w fun v w' => ∃ (J : Im) (rso_px0_1 : List Rh) (ao_px0_2 : Option Addr) (co_px0_2 : Nat), Im.le I J ∧ Sat J (blk ab 161 (cL19 r.1 C G H ao_px0_2 r.2.2.length co_px0_2) :: rowsP C G H rso_px0_1 r.2.1 :: osl 3 1 ao_px0_2 r.2.2.length co_px0_2 (r.2.2.flatMap e64) :: F) w' ∧ v = .tuple #[] := by
 unfold f78_m at hm
 refine cv_of (n := 25) Proofs.Tryz.func78 rfl rfl (nLe rfl) <| cQ <| cR <| oB (v := .agg (cL13 ae K X ad ac U T S R Q Y W O.length V).toArray) (cs := (cL13 ae K X ad ac U T S R Q Y W O.length V)) hs rfl rfl ?_
 clear hs; intro b1 w hs
 refine oN <| sQR ?_
 obtain ⟨r3, aF, hm⟩ := bS hm
 obtain ⟨M, aE, hm⟩ := bS hm
 replace hs := hs.pushEmp
 replace hs := hs.pushEmp
 refine cD mixed rfl (fun f0 L f w => ∃ (x : Option Addr) (t : Nat) (c : List Rh) (e : Option Addr) (d : Nat) (l : Option Addr) (j : Nat) (E : Nat) (N : Im), Im.le I N ∧ f = frL [(7, 0, pQ ab 0), (8, 1, pQ b1 2), (9, 2, iN X), (10, 3, .agg (cL0 r3.1 r3.2.1 x r3.2.2.1.length t).toArray), (11, 4, pQ b1 5), (12, 5, .agg (cL3 U T S R Q).toArray), (13, 6, .tuple #[.agg (cL0 M.1 M.2.1 l M.2.2.1.length j).toArray, iN M.2.2.2]), (6, 7, .tuple #[.agg (cL0 M.1 M.2.1 l M.2.2.1.length j).toArray, iN M.2.2.2]), (14, 8, .agg (cL0 M.1 M.2.1 l M.2.2.1.length j).toArray), (15, 9, iN M.2.2.2), (4, 10, pQ E 0), (5, 12, iN M.2.2.2)] L f0 ∧ Sat N (rL [(6, osl 3 1 l M.2.2.1.length j (M.2.2.1.flatMap e64))] emp L :: rL [(11, blk E 26 (cL0 M.1 M.2.1 l M.2.2.1.length j)), (10, blk E 26 (cL0 0 0 none 0 0))] emp L :: blk b1 168 (cL13 ae K X ad ac U T S R Q Y W O.length V) :: rL [(3, blk ab 161 (cL19 r3.2.2.2.1 C G H e r3.2.2.2.2.2.length d))] (blk ab 161 (cL19 al C G H aj Z.length ai)) L :: rL [(3, rowsP C G H c r3.2.2.2.2.1)] (rowsP C G H ar ak) L :: rL [(3, osl 3 1 e r3.2.2.2.2.2.length d (r3.2.2.2.2.2.flatMap e64))] (osl 3 1 aj Z.length ai (Z.flatMap e64)) L :: F) w ∧ (L 3 = true → Rs N 1 x r3.2.2.1.length t (r3.2.2.1.flatMap e64)) ∧ (L 11 = true → L 6 = true) ∧ (L 7 = true → L 6 = true) ∧ (L 8 = true → L 6 = true) ∧ (L 11 = true → L 10 = true) ∧ (L 6 = true → L 3 = true) ∧ (L 7 = true → L 3 = true)) ⟨none, 0, [], none, 0, none, 0, 0, I, iR, (frL_ff _).symm, hs.drew, (fun h => by cases h), (fun h => by cases h), (fun h => by cases h), (fun h => by cases h), (fun h => by cases h), (fun h => by cases h), (fun h => by cases h)⟩ ⟨?_, ?_, ?_, ?_, ?_, ?_, ?_, ?_, ?_, ?_, ?_, ?_, ?_, trivial⟩ ?_
 all_goals clear hs
 · rintro L f w _ hL ⟨x, t, c, e, d, l, j, E, N, q, rfl, hs, m, s, y, B, p, A, z⟩
   refine mP rfl ?_
   exact oN ⟨rfl, rfl, x, t, c, e, d, l, j, E, N, q, fS rfl rfl, hs, (fun h => m h), s, y, B, p, A, z⟩
 · rintro L f w _ hL ⟨x, t, c, e, d, l, j, E, N, q, rfl, hs, m, s, y, B, p, A, z⟩
   refine oF (b := b1) (o := 0) fl168_2 rfl ?_
   exact oN ⟨rfl, rfl, x, t, c, e, d, l, j, E, N, q, fS rfl rfl, hs, (fun h => m h), s, y, B, p, A, z⟩
 · rintro L f w ⟨ap, _⟩ hL ⟨x, t, c, e, d, l, j, E, N, q, rfl, hs, m, s, y, B, p, A, z⟩
   refine ld1 (k := 2) hs rfl (fG rfl ap) ty3 rfl ?_
   exact oN ⟨rfl, rfl, x, t, c, e, d, l, j, E, N, q, fS rfl rfl, hs, (fun h => m h), s, y, B, p, A, z⟩
 · rintro L f w ⟨aq, ao, _⟩ hL ⟨x, t, c, e, d, l, j, E, N, q, rfl, hs, m, s, y, B, p, A, z⟩
   replace hs := hs.eqv (k := 3) rfl ((rL_f hL (rL_n)))
   replace hs := hs.eqv (k := 4) rfl ((rL_f hL (rL_n)))
   replace hs := hs.eqv (k := 5) rfl ((rL_f hL (rL_n)))
   replace hs := hs.front (k := 5) rfl
   replace hs := hs.front (k := 5) rfl
   replace hs := hs.front (k := 5) rfl
   refine oC (fi := []) (vs := [pQ ab 0, iN X]) (ca := []) rfl ⟨(fG rfl aq), (fG rfl ao), trivial⟩ en114 (f114_ok _ _ _ _ aF hs) ?_
   clear hs; rintro _ w ⟨J5, x, t, c, e, d, aB, hs, rfl, hRz7_2⟩
   replace hs := hs.front (k := 2) rfl
   replace hs := hs.front (k := 2) rfl
   replace hs := hs.front (k := 2) rfl
   replace hs := hs.front (k := 5) rfl
   replace hs := hs.front (k := 5) rfl
   replace hs := hs.front (k := 5) rfl
   exact oN ⟨rfl, rfl, x, t, c, e, d, l, j, E, J5, (q.trans aB), (Eq.trans (fSG (i := 3) rfl rfl) (rfl)), hs, (fun _ => hRz7_2), s, y, B, p, (fun _ => rfl), (fun _ => rfl)⟩
 · rintro L f w _ hL ⟨x, t, c, e, d, l, j, E, N, q, rfl, hs, m, s, y, B, p, A, z⟩
   refine oF (b := b1) (o := 0) fl168_5 rfl ?_
   exact oN ⟨rfl, rfl, x, t, c, e, d, l, j, E, N, q, fS rfl rfl, hs, (fun h => m h), s, y, B, p, A, z⟩
 · rintro L f w ⟨an, _⟩ hL ⟨x, t, c, e, d, l, j, E, N, q, rfl, hs, m, s, y, B, p, A, z⟩
   refine oL (k := 2) (vs := (cL3 U T S R Q)) (v := .agg (cL3 U T S R Q).toArray) hs rfl (fG rfl an) ty35 rfl rfl rfl ?_
   exact oN ⟨rfl, rfl, x, t, c, e, d, l, j, E, N, q, fS rfl rfl, hs, (fun h => m h), s, y, B, p, A, z⟩
 · rintro L f w ⟨ah, av, _, _⟩ hL ⟨x, t, c, e, d, l, j, E, N, q, rfl, hs, m, s, y, B, p, A, z⟩
   have hRz7_2 := m ah
   replace hs := hs.eqv (k := 0) rfl ((rL_f hL (rL_n)))
   replace hs := hs.eqv (k := 1) rfl ((rL_f (show L 11 = false from pF s hL) (rfl)))
   refine oC (fi := []) (vs := [.agg (cL0 r3.1 r3.2.1 x r3.2.2.1.length t).toArray, .agg (cL3 U T S R Q).toArray]) (ca := []) rfl ⟨(fG rfl ah), (fG rfl av), trivial⟩ en49 (f49_ok _ _ _ _ _ _ _ _ aE hs hRz7_2) ?_
   clear hs; rintro _ w ⟨aH, l, j, aw, hs, rfl⟩
   replace hs := hs.setE (k := 0) rfl
   replace hs := hs.eqv (k := 1) rfl (Eq.symm (a := rL [(11, blk E 26 (cL0 M.1 M.2.1 l M.2.2.1.length j)), (10, blk E 26 (cL0 0 0 none 0 0))] emp (setL L 6)) (((rL_f (L := setL L 6) (show L 11 = false from pF s hL) (rfl)))))
   exact oN ⟨rfl, rfl, x, t, c, e, d, l, j, E, aH, (q.trans aw), (Eq.trans (fSG (i := 6) rfl rfl) (Eq.trans (fD (u := undef) (i := 7) (v := .tuple #[.agg (cL0 M.1 M.2.1 l M.2.2.1.length j).toArray, iN M.2.2.2]) (L := setL L 6) (show L 7 = false from pF y hL)) (Eq.trans (fD (u := undef) (i := 8) (v := .agg (cL0 M.1 M.2.1 l M.2.2.1.length j).toArray) (L := setL L 6) (show L 8 = false from pF B hL)) (rfl)))), hs, (fun h => (m h).mono aw), (fun _ => rfl), (fun _ => rfl), (fun _ => rfl), p, (fun _ => ah), z⟩
 · rintro L f w ⟨ag, _⟩ hL ⟨x, t, c, e, d, l, j, E, N, q, rfl, hs, m, s, y, B, p, A, z⟩
   have hRz7_2 := m (A ag)
   refine oV (xM (v := .tuple #[.agg (cL0 M.1 M.2.1 l M.2.2.1.length j).toArray, iN M.2.2.2]) (fG rfl ag)) rfl ?_
   exact oN ⟨rfl, rfl, x, t, c, e, d, l, j, E, N, q, fS rfl rfl, hs, (fun h => m h), s, (fun _ => ag), B, p, A, (fun _ => (A ag))⟩
 · rintro L f w ⟨af, _⟩ hL ⟨x, t, c, e, d, l, j, E, N, q, rfl, hs, m, s, y, B, p, A, z⟩
   have hRz7_2 := m (z af)
   refine oV (xE (v := .agg (cL0 M.1 M.2.1 l M.2.2.1.length j).toArray) (fG rfl af) rfl) rfl ?_
   exact oN ⟨rfl, rfl, x, t, c, e, d, l, j, E, N, q, fS rfl rfl, hs, (fun h => m h), s, y, (fun _ => (y af)), p, A, z⟩
 · rintro L f w ⟨af, _⟩ hL ⟨x, t, c, e, d, l, j, E, N, q, rfl, hs, m, s, y, B, p, A, z⟩
   have hRz7_2 := m (z af)
   refine oV (xE (v := iN M.2.2.2) (fG rfl af) rfl) rfl ?_
   exact oN ⟨rfl, rfl, x, t, c, e, d, l, j, E, N, q, fS rfl rfl, hs, (fun h => m h), s, y, B, p, A, z⟩
 · rintro L f w _ hL ⟨x, t, c, e, d, l, j, E, N, q, rfl, hs, m, s, y, B, p, A, z⟩
   replace hs := hs.eqv (k := 1) rfl ((rL_f (show L 11 = false from pF p hL) ((rL_f hL (rL_n)))))
   refine ow_alloc hs ty26 rfl ?_
   clear hs; intro E w hs
   replace hs := hs.setE (k := 1) rfl
   replace hs := hs.eqv (k := 1) rfl (Eq.symm (a := rL [(11, blk E 26 (cL0 M.1 M.2.1 l M.2.2.1.length j)), (10, blk E 26 (cL0 0 0 none 0 0))] emp (setL L 10)) (((rL_f (L := setL L 10) (show L 11 = false from pF p hL) (rL_t (L := setL L 10) rfl)))))
   exact oN ⟨rfl, rfl, x, t, c, e, d, l, j, E, N, q, (Eq.trans (fSG (i := 10) rfl rfl) (rfl)), hs, (fun h => m h), s, y, B, (fun _ => rfl), A, z⟩
 · rintro L f w ⟨au, ax, ag, aq, ap, ao, ah, an, av, _, af, _, _, _⟩ hL ⟨x, t, c, e, d, l, j, E, N, q, rfl, hs, m, s, y, B, p, A, z⟩
   have hRz7_2 := m ah
   replace hs := hs.eqv (k := 1) rfl ((rL_f hL (rL_t au)))
   refine oS (k := 1) (vs := (cL0 M.1 M.2.1 l M.2.2.1.length j)) (cs' := (cL0 M.1 M.2.1 l M.2.2.1.length j)) hs rfl (fG rfl au) (fG rfl ax) ty26 rfl rfl (nLe rfl) rfl rfl ?_
   clear hs; intro w hs
   exact oN ⟨rfl, rfl, x, t, c, e, d, l, j, E, N, q, frL_no rfl, hs, (fun h => m h), (fun _ => ag), y, B, (fun _ => au), A, z⟩
 · rintro L f w ⟨aG, aK, aq, ap, ao, ah, an, av, ag, af, ax, _, au, _, _⟩ hL ⟨x, t, c, e, d, l, j, E, N, q, rfl, hs, m, s, y, B, p, A, z⟩
   have hRz7_2 := m ah
   refine asI (fG rfl aG) ?_
   exact oN ⟨rfl, rfl, x, t, c, e, d, l, j, E, N, q, fS rfl rfl, hs, (fun h => m h), s, y, B, p, A, z⟩
 rintro L f w hall ⟨x, t, c, e, d, l, j, E, aC, aA, rfl, hs, hRz7_2, _, _, _, _, _, _⟩
 rw [frL_tt _ rfl hall]
 replace hs := hs.eqv (k := 0) rfl (rL_t (hall 6 (nLe rfl)))
 replace hs := hs.eqv (k := 1) rfl (rL_t (hall 11 (nLe rfl)))
 replace hs := hs.eqv (k := 3) rfl (rL_t (hall 3 (nLe rfl)))
 replace hs := hs.eqv (k := 4) rfl (rL_t (hall 3 (nLe rfl)))
 replace hs := hs.eqv (k := 5) rfl (rL_t (hall 3 (nLe rfl)))
 replace hRz7_2 := hRz7_2 (hall 3 (nLe rfl))
 refine sK ?_
 have am := (iS hm).1
 replace hm := (iS hm).2
 refine cD mixed rfl (fun f0 L f w => ∃ (N : Im), Im.le aC N ∧ f = frL [(16, 0, pQ ab 0), (17, 1, pQ ab 0), (18, 2, pQ ab 1), (19, 3, .slice C G H), (20, 4, pQ b1 1), (21, 5, iN K), (22, 6, pQ E 2), (23, 7, .slice l M.2.2.1.length j), (24, 8, .pointer (some (ea C (K.toNat * 1))))] L f0 ∧ Sat N (rL [(9, emp)] (osl 3 1 l M.2.2.1.length j (M.2.2.1.flatMap e64)) L :: blk E 26 (cL0 M.1 M.2.1 l M.2.2.1.length j) :: blk b1 168 (cL13 ae K X ad ac U T S R Q Y W O.length V) :: blk ab 161 (cL19 r3.2.2.2.1 C G H e r3.2.2.2.2.2.length d) :: rL [(9, rowsP C G H (c.set K.toNat (l, j)) (r3.2.2.2.2.1.set K.toNat M.2.2.1))] (rowsP C G H c r3.2.2.2.2.1) L :: osl 3 1 e r3.2.2.2.2.2.length d (r3.2.2.2.2.2.flatMap e64) :: F) w ∧ (L 9 = true → L 8 = true)) ⟨aC, iR, (frL_ff _).symm, hs.drew, (fun h => by cases h)⟩ ⟨?_, ?_, ?_, ?_, ?_, ?_, ?_, ?_, ?_, ?_, trivial⟩ ?_
 all_goals clear hs
 · rintro L f w _ hL ⟨N, q, rfl, hs, D⟩
   refine mP rfl ?_
   exact oN ⟨rfl, rfl, N, q, fS rfl rfl, hs, D⟩
 · rintro L f w ⟨aq, _⟩ hL ⟨N, q, rfl, hs, D⟩
   refine oV (x_nilCheck (fG rfl aq)) rfl ?_
   exact oN ⟨rfl, rfl, N, q, fS rfl rfl, hs, D⟩
 · rintro L f w ⟨ap, _⟩ hL ⟨N, q, rfl, hs, D⟩
   refine oF (b := ab) (o := 0) fl161_1 (fG rfl ap) ?_
   exact oN ⟨rfl, rfl, N, q, fS rfl rfl, hs, D⟩
 · rintro L f w ⟨ao, _⟩ hL ⟨N, q, rfl, hs, D⟩
   refine ld1 (k := 3) hs rfl (fG rfl ao) ty57 rfl ?_
   exact oN ⟨rfl, rfl, N, q, fS rfl rfl, hs, D⟩
 · rintro L f w _ hL ⟨N, q, rfl, hs, D⟩
   refine oF (b := b1) (o := 0) fl168_1 rfl ?_
   exact oN ⟨rfl, rfl, N, q, fS rfl rfl, hs, D⟩
 · rintro L f w ⟨an, _⟩ hL ⟨N, q, rfl, hs, D⟩
   refine ld1 (k := 2) hs rfl (fG rfl an) ty3 rfl ?_
   exact oN ⟨rfl, rfl, N, q, fS rfl rfl, hs, D⟩
 · rintro L f w _ hL ⟨N, q, rfl, hs, D⟩
   refine oF (b := E) (o := 0) fl26_2 rfl ?_
   exact oN ⟨rfl, rfl, N, q, fS rfl rfl, hs, D⟩
 · rintro L f w ⟨ag, _⟩ hL ⟨N, q, rfl, hs, D⟩
   refine ld1 (k := 1) hs rfl (fG rfl ag) ty24 rfl ?_
   exact oN ⟨rfl, rfl, N, q, fS rfl rfl, hs, D⟩
 · rintro L f w ⟨ah, av, aq, ap, ao, _, an, _, ag, af, _⟩ hL ⟨N, q, rfl, hs, D⟩
   replace hs := hs.eqv (k := 4) rfl ((rL_f (show L 9 = false from pF D hL) (rL_n)))
   have aJ := (hs.rowsLen (k := 4) rfl).2
   refine oI (i := K) sl57 ty24 (fG rfl ah) (fG rfl av) am.1 (by have := am; omega) (sep_some hs (k := 4) rfl (by have := am; omega)) ?_
   replace hs := hs.eqv (k := 4) rfl (Eq.symm (a := rL [(9, rowsP C G H (c.set K.toNat (l, j)) (r3.2.2.2.2.1.set K.toNat M.2.2.1))] (rowsP C G H c r3.2.2.2.2.1) (setL L 8)) (((rL_f (L := setL L 8) (show L 9 = false from pF D hL) (rL_n)))))
   exact oN ⟨rfl, rfl, N, q, fS rfl rfl, hs, (fun _ => rfl)⟩
 · rintro L f w ⟨ax, af, aq, ap, ao, ah, an, av, ag, _, _⟩ hL ⟨N, q, rfl, hs, D⟩
   replace hs := hs.eqv (k := 0) rfl ((rL_f hL (rL_n)))
   replace hs := hs.eqv (k := 4) rfl ((rL_f hL (rL_n)))
   refine ow_storeRow (k := 4) (k2 := 0) (i := K) (xs := M.2.2.1) hs rfl rfl rfl (fG rfl ax) (fG rfl af) ty24 am.1 am.2 ?_
   clear hs; intro w hs
   exact oN ⟨rfl, rfl, N, q, frL_no rfl, hs, (fun _ => ax)⟩
 rintro L f w hall ⟨aI, az, rfl, hs, _⟩
 rw [frL_tt _ rfl hall]
 replace hs := hs.eqv (k := 0) rfl (rL_t (hall 9 (nLe rfl)))
 replace hs := hs.eqv (k := 4) rfl (rL_t (hall 9 (nLe rfl)))
 refine rK (rs := []) (vs := []) (.inl rfl) rfl trivial ?_
 obtain rfl := oJ hm
 replace hs := hs.erase 0
 replace hs := hs.erase 0
 replace hs := hs.erase 0
 exact ⟨aI, c.set K.toNat (l, j), e, d, (aA.trans az), hs, rfl⟩
def f79_m (ay : Int) (ax : List (List Int)) (aa : List Int) (av : Int) (W : Int) (ah : Int) (ag : Int) (au : Int) (ar : Int) (aq : Int) (ap : Int) (ao : Int) (an : Int) (Y : Int) (Z : List Int) : Option (Int × List (List Int) × List Int) :=
  ((f114_m ay ax aa ah).bind fun r3 => ((f114_m r3.2.2.2.1 r3.2.2.2.2.1 r3.2.2.2.2.2 ag).bind fun r8 => ((f104_m r3.1 r3.2.1 r3.2.2.1 r8.1 r8.2.1 r8.2.2.1 Y).bind fun T => (if 0 ≤ W ∧ W < (r8.2.2.2.2.1.length : Int) then some (r8.2.2.2.1, r8.2.2.2.2.1.set W.toNat T.2.2.1, r8.2.2.2.2.2) else none))))
theorem f79_ok (ay : Int) (ax : List (List Int)) (aa : List Int) (av : Int) (W : Int) (ah : Int) (ag : Int) (au : Int) (ar : Int) (aq : Int) (ap : Int) (ao : Int) (an : Int) (Y : Int) (Z : List Int) {r : Int × List (List Int) × List Int} (hm : f79_m ay ax aa av W ah ag au ar aq ap ao an Y Z = some r) {ab : Nat} {Q : Option Addr} {R : Nat} {S : Nat} {az : List Rh} {al : Option Addr} {ak : Nat} {ae : Option Addr} {ad : Nat} {I : Im} {F : List HP} {w : World} (hs : Sat I (blk ab 161 (cL19 ay Q R S al aa.length ak) :: rowsP Q R S az ax :: osl 3 1 al aa.length ak (aa.flatMap e64) :: F) w) (aU : Rs I 1 ae Z.length ad (Z.flatMap e64)) :
    CV P 79 [pQ ab 0, .agg (cL13 av W ah ag au ar aq ap ao an Y ae Z.length ad).toArray] w fun v w' => ∃ (J : Im) (rso_px0_1 : List Rh) (ao_px0_2 : Option Addr) (co_px0_2 : Nat), Im.le I J ∧ Sat J (blk ab 161 (cL19 r.1 Q R S ao_px0_2 r.2.2.length co_px0_2) :: rowsP Q R S rso_px0_1 r.2.1 :: osl 3 1 ao_px0_2 r.2.2.length co_px0_2 (r.2.2.flatMap e64) :: F) w' ∧ v = .tuple #[] := by
 unfold f79_m at hm
 refine cv_of (n := 29) Proofs.Tryz.func79 rfl rfl (nLe rfl) <| cQ <| cR <| oB (v := .agg (cL13 av W ah ag au ar aq ap ao an Y ae Z.length ad).toArray) (cs := (cL13 av W ah ag au ar aq ap ao an Y ae Z.length ad)) hs rfl rfl ?_
 clear hs; intro b1 w hs
 refine oN <| sQR ?_
 obtain ⟨r3, aW, hm⟩ := bS hm
 obtain ⟨r8, aV, hm⟩ := bS hm
 obtain ⟨T, aR, hm⟩ := bS hm
 replace hs := hs.pushEmp
 replace hs := hs.pushEmp
 refine cD mixed rfl (fun f0 L f w => ∃ (N : Option Addr) (M : Nat) (j : List Rh) (m : Option Addr) (l : Nat) (B : Option Addr) (A : Nat) (c : List Rh) (e : Option Addr) (d : Nat) (q : Option Addr) (p : Nat) (U : Nat) (X : Im), Im.le I X ∧ f = frL [(7, 0, pQ ab 0), (8, 1, pQ b1 2), (9, 2, iN ah), (10, 3, .agg (cL0 r3.1 r3.2.1 N r3.2.2.1.length M).toArray), (11, 4, pQ ab 0), (12, 5, pQ b1 3), (13, 6, iN ag), (14, 7, .agg (cL0 r8.1 r8.2.1 B r8.2.2.1.length A).toArray), (15, 8, pQ b1 10), (16, 9, .int .u8 Y), (17, 10, .tuple #[.agg (cL0 T.1 T.2.1 q T.2.2.1.length p).toArray, iN T.2.2.2]), (6, 11, .tuple #[.agg (cL0 T.1 T.2.1 q T.2.2.1.length p).toArray, iN T.2.2.2]), (18, 12, .agg (cL0 T.1 T.2.1 q T.2.2.1.length p).toArray), (19, 13, iN T.2.2.2), (4, 14, pQ U 0), (5, 16, iN T.2.2.2)] L f0 ∧ Sat X (rL [(10, osl 3 1 q T.2.2.1.length p (T.2.2.1.flatMap e64))] emp L :: rL [(15, blk U 26 (cL0 T.1 T.2.1 q T.2.2.1.length p)), (14, blk U 26 (cL0 0 0 none 0 0))] emp L :: blk b1 168 (cL13 av W ah ag au ar aq ap ao an Y ae Z.length ad) :: rL [(7, blk ab 161 (cL19 r8.2.2.2.1 Q R S e r8.2.2.2.2.2.length d)), (3, blk ab 161 (cL19 r3.2.2.2.1 Q R S m r3.2.2.2.2.2.length l))] (blk ab 161 (cL19 ay Q R S al aa.length ak)) L :: rL [(7, rowsP Q R S c r8.2.2.2.2.1), (3, rowsP Q R S j r3.2.2.2.2.1)] (rowsP Q R S az ax) L :: rL [(7, osl 3 1 e r8.2.2.2.2.2.length d (r8.2.2.2.2.2.flatMap e64)), (3, osl 3 1 m r3.2.2.2.2.2.length l (r3.2.2.2.2.2.flatMap e64))] (osl 3 1 al aa.length ak (aa.flatMap e64)) L :: F) w ∧ (L 3 = true → Rs X 1 N r3.2.2.1.length M (r3.2.2.1.flatMap e64)) ∧ (L 7 = true → Rs X 1 B r8.2.2.1.length A (r8.2.2.1.flatMap e64)) ∧ (L 7 = true → L 3 = true) ∧ (L 15 = true → L 10 = true) ∧ (L 11 = true → L 10 = true) ∧ (L 12 = true → L 10 = true) ∧ (L 15 = true → L 14 = true) ∧ (L 10 = true → L 3 = true) ∧ (L 10 = true → L 7 = true) ∧ (L 11 = true → L 3 = true) ∧ (L 11 = true → L 7 = true)) ⟨none, 0, [], none, 0, none, 0, [], none, 0, none, 0, 0, I, iR, (frL_ff _).symm, hs.drew, (fun h => by cases h), (fun h => by cases h), (fun h => by cases h), (fun h => by cases h), (fun h => by cases h), (fun h => by cases h), (fun h => by cases h), (fun h => by cases h), (fun h => by cases h), (fun h => by cases h), (fun h => by cases h)⟩ ⟨?_, ?_, ?_, ?_, ?_, ?_, ?_, ?_, ?_, ?_, ?_, ?_, ?_, ?_, ?_, ?_, ?_, trivial⟩ ?_
 all_goals clear hs
 · rintro L f w _ hL ⟨N, M, j, m, l, B, A, c, e, d, q, p, U, X, K, rfl, hs, t, s, O, y, z, C, x, H, G, E, D⟩
   refine mP rfl ?_
   exact oN ⟨rfl, rfl, N, M, j, m, l, B, A, c, e, d, q, p, U, X, K, fS rfl rfl, hs, (fun h => t h), (fun h => s h), O, y, z, C, x, H, G, E, D⟩
 · rintro L f w _ hL ⟨N, M, j, m, l, B, A, c, e, d, q, p, U, X, K, rfl, hs, t, s, O, y, z, C, x, H, G, E, D⟩
   refine oF (b := b1) (o := 0) fl168_2 rfl ?_
   exact oN ⟨rfl, rfl, N, M, j, m, l, B, A, c, e, d, q, p, U, X, K, fS rfl rfl, hs, (fun h => t h), (fun h => s h), O, y, z, C, x, H, G, E, D⟩
 · rintro L f w ⟨aF, _⟩ hL ⟨N, M, j, m, l, B, A, c, e, d, q, p, U, X, K, rfl, hs, t, s, O, y, z, C, x, H, G, E, D⟩
   refine ld1 (k := 2) hs rfl (fG rfl aF) ty3 rfl ?_
   exact oN ⟨rfl, rfl, N, M, j, m, l, B, A, c, e, d, q, p, U, X, K, fS rfl rfl, hs, (fun h => t h), (fun h => s h), O, y, z, C, x, H, G, E, D⟩
 · rintro L f w ⟨aG, aE, _⟩ hL ⟨N, M, j, m, l, B, A, c, e, d, q, p, U, X, K, rfl, hs, t, s, O, y, z, C, x, H, G, E, D⟩
   replace hs := hs.eqv (k := 3) rfl ((rL_f (show L 7 = false from pF O hL) ((rL_f hL (rL_n)))))
   replace hs := hs.eqv (k := 4) rfl ((rL_f (show L 7 = false from pF O hL) ((rL_f hL (rL_n)))))
   replace hs := hs.eqv (k := 5) rfl ((rL_f (show L 7 = false from pF O hL) ((rL_f hL (rL_n)))))
   replace hs := hs.front (k := 5) rfl
   replace hs := hs.front (k := 5) rfl
   replace hs := hs.front (k := 5) rfl
   refine oC (fi := []) (vs := [pQ ab 0, iN ah]) (ca := []) rfl ⟨(fG rfl aG), (fG rfl aE), trivial⟩ en114 (f114_ok _ _ _ _ aW hs) ?_
   clear hs; rintro _ w ⟨J5, N, M, j, m, l, aM, hs, rfl, hRz7_2⟩
   replace hs := hs.front (k := 2) rfl
   replace hs := hs.front (k := 2) rfl
   replace hs := hs.front (k := 2) rfl
   replace hs := hs.front (k := 5) rfl
   replace hs := hs.front (k := 5) rfl
   replace hs := hs.front (k := 5) rfl
   replace hs := hs.eqv (k := 3) rfl (Eq.symm (a := rL [(7, blk ab 161 (cL19 r8.2.2.2.1 Q R S e r8.2.2.2.2.2.length d)), (3, blk ab 161 (cL19 r3.2.2.2.1 Q R S m r3.2.2.2.2.2.length l))] (blk ab 161 (cL19 ay Q R S al aa.length ak)) (setL L 3)) (((rL_f (L := setL L 3) (show L 7 = false from pF O hL) (rL_t (L := setL L 3) rfl)))))
   replace hs := hs.eqv (k := 4) rfl (Eq.symm (a := rL [(7, rowsP Q R S c r8.2.2.2.2.1), (3, rowsP Q R S j r3.2.2.2.2.1)] (rowsP Q R S az ax) (setL L 3)) (((rL_f (L := setL L 3) (show L 7 = false from pF O hL) (rL_t (L := setL L 3) rfl)))))
   replace hs := hs.eqv (k := 5) rfl (Eq.symm (a := rL [(7, osl 3 1 e r8.2.2.2.2.2.length d (r8.2.2.2.2.2.flatMap e64)), (3, osl 3 1 m r3.2.2.2.2.2.length l (r3.2.2.2.2.2.flatMap e64))] (osl 3 1 al aa.length ak (aa.flatMap e64)) (setL L 3)) (((rL_f (L := setL L 3) (show L 7 = false from pF O hL) (rL_t (L := setL L 3) rfl)))))
   exact oN ⟨rfl, rfl, N, M, j, m, l, B, A, c, e, d, q, p, U, J5, (K.trans aM), (Eq.trans (fSG (i := 3) rfl rfl) (rfl)), hs, (fun _ => hRz7_2), (fun h => (s h).mono aM), (fun _ => rfl), y, z, C, x, (fun _ => rfl), G, (fun _ => rfl), D⟩
 · rintro L f w _ hL ⟨N, M, j, m, l, B, A, c, e, d, q, p, U, X, K, rfl, hs, t, s, O, y, z, C, x, H, G, E, D⟩
   refine mP rfl ?_
   exact oN ⟨rfl, rfl, N, M, j, m, l, B, A, c, e, d, q, p, U, X, K, fS rfl rfl, hs, (fun h => t h), (fun h => s h), O, y, z, C, x, H, G, E, D⟩
 · rintro L f w _ hL ⟨N, M, j, m, l, B, A, c, e, d, q, p, U, X, K, rfl, hs, t, s, O, y, z, C, x, H, G, E, D⟩
   refine oF (b := b1) (o := 0) fl168_3 rfl ?_
   exact oN ⟨rfl, rfl, N, M, j, m, l, B, A, c, e, d, q, p, U, X, K, fS rfl rfl, hs, (fun h => t h), (fun h => s h), O, y, z, C, x, H, G, E, D⟩
 · rintro L f w ⟨aJ, _⟩ hL ⟨N, M, j, m, l, B, A, c, e, d, q, p, U, X, K, rfl, hs, t, s, O, y, z, C, x, H, G, E, D⟩
   refine ld1 (k := 2) hs rfl (fG rfl aJ) ty3 rfl ?_
   exact oN ⟨rfl, rfl, N, M, j, m, l, B, A, c, e, d, q, p, U, X, K, fS rfl rfl, hs, (fun h => t h), (fun h => s h), O, y, z, C, x, H, G, E, D⟩
 · rintro L f w ⟨aD, aC, af, _⟩ hL ⟨N, M, j, m, l, B, A, c, e, d, q, p, U, X, K, rfl, hs, t, s, O, y, z, C, x, H, G, E, D⟩
   have hRz7_2 := t af
   replace hs := hs.eqv (k := 3) rfl ((rL_f hL (rL_t af)))
   replace hs := hs.eqv (k := 4) rfl ((rL_f hL (rL_t af)))
   replace hs := hs.eqv (k := 5) rfl ((rL_f hL (rL_t af)))
   replace hs := hs.front (k := 5) rfl
   replace hs := hs.front (k := 5) rfl
   replace hs := hs.front (k := 5) rfl
   refine oC (fi := []) (vs := [pQ ab 0, iN ag]) (ca := []) rfl ⟨(fG rfl aD), (fG rfl aC), trivial⟩ en114 (f114_ok _ _ _ _ aV hs) ?_
   clear hs; rintro _ w ⟨aY, B, A, c, e, d, aK, hs, rfl, hRz12_2⟩
   replace hs := hs.front (k := 2) rfl
   replace hs := hs.front (k := 2) rfl
   replace hs := hs.front (k := 2) rfl
   replace hs := hs.front (k := 5) rfl
   replace hs := hs.front (k := 5) rfl
   replace hs := hs.front (k := 5) rfl
   exact oN ⟨rfl, rfl, N, M, j, m, l, B, A, c, e, d, q, p, U, aY, (K.trans aK), (Eq.trans (fSG (i := 7) rfl rfl) (rfl)), hs, (fun h => (t h).mono aK), (fun _ => hRz12_2), (fun _ => af), y, z, C, x, H, (fun _ => rfl), E, (fun _ => rfl)⟩
 · rintro L f w _ hL ⟨N, M, j, m, l, B, A, c, e, d, q, p, U, X, K, rfl, hs, t, s, O, y, z, C, x, H, G, E, D⟩
   refine oF (b := b1) (o := 0) fl168_6 rfl ?_
   exact oN ⟨rfl, rfl, N, M, j, m, l, B, A, c, e, d, q, p, U, X, K, fS rfl rfl, hs, (fun h => t h), (fun h => s h), O, y, z, C, x, H, G, E, D⟩
 · rintro L f w ⟨aI, _⟩ hL ⟨N, M, j, m, l, B, A, c, e, d, q, p, U, X, K, rfl, hs, t, s, O, y, z, C, x, H, G, E, D⟩
   refine ld1 (k := 2) hs rfl (fG rfl aI) ty5 rfl ?_
   exact oN ⟨rfl, rfl, N, M, j, m, l, B, A, c, e, d, q, p, U, X, K, fS rfl rfl, hs, (fun h => t h), (fun h => s h), O, y, z, C, x, H, G, E, D⟩
 · rintro L f w ⟨af, aw, aQ, _, _⟩ hL ⟨N, M, j, m, l, B, A, c, e, d, q, p, U, X, K, rfl, hs, t, s, O, y, z, C, x, H, G, E, D⟩
   have hRz7_2 := t af
   have hRz12_2 := s aw
   replace hs := hs.eqv (k := 0) rfl ((rL_f hL (rL_n)))
   replace hs := hs.eqv (k := 1) rfl ((rL_f (show L 15 = false from pF y hL) (rfl)))
   refine oC (fi := []) (vs := [.agg (cL0 r3.1 r3.2.1 N r3.2.2.1.length M).toArray, .agg (cL0 r8.1 r8.2.1 B r8.2.2.1.length A).toArray, .int .u8 Y]) (ca := []) rfl ⟨(fG rfl af), (fG rfl aw), (fG rfl aQ), trivial⟩ en104 (f104_ok _ _ _ _ _ _ _ aR hs hRz7_2 hRz12_2) ?_
   clear hs; rintro _ w ⟨aX, q, p, aB, hs, rfl⟩
   replace hs := hs.setE (k := 0) rfl
   replace hs := hs.eqv (k := 1) rfl (Eq.symm (a := rL [(15, blk U 26 (cL0 T.1 T.2.1 q T.2.2.1.length p)), (14, blk U 26 (cL0 0 0 none 0 0))] emp (setL L 10)) (((rL_f (L := setL L 10) (show L 15 = false from pF y hL) (rfl)))))
   exact oN ⟨rfl, rfl, N, M, j, m, l, B, A, c, e, d, q, p, U, aX, (K.trans aB), (Eq.trans (fSG (i := 10) rfl rfl) (Eq.trans (fD (u := undef) (i := 11) (v := .tuple #[.agg (cL0 T.1 T.2.1 q T.2.2.1.length p).toArray, iN T.2.2.2]) (L := setL L 10) (show L 11 = false from pF z hL)) (Eq.trans (fD (u := undef) (i := 12) (v := .agg (cL0 T.1 T.2.1 q T.2.2.1.length p).toArray) (L := setL L 10) (show L 12 = false from pF C hL)) (rfl)))), hs, (fun h => (t h).mono aB), (fun h => (s h).mono aB), O, (fun _ => rfl), (fun _ => rfl), (fun _ => rfl), x, (fun _ => af), (fun _ => aw), E, D⟩
 · rintro L f w ⟨aj, _⟩ hL ⟨N, M, j, m, l, B, A, c, e, d, q, p, U, X, K, rfl, hs, t, s, O, y, z, C, x, H, G, E, D⟩
   have hRz7_2 := t (H aj)
   have hRz12_2 := s (G aj)
   refine oV (xM (v := .tuple #[.agg (cL0 T.1 T.2.1 q T.2.2.1.length p).toArray, iN T.2.2.2]) (fG rfl aj)) rfl ?_
   exact oN ⟨rfl, rfl, N, M, j, m, l, B, A, c, e, d, q, p, U, X, K, fS rfl rfl, hs, (fun h => t h), (fun h => s h), O, y, (fun _ => aj), C, x, H, G, (fun _ => (H aj)), (fun _ => (G aj))⟩
 · rintro L f w ⟨ai, _⟩ hL ⟨N, M, j, m, l, B, A, c, e, d, q, p, U, X, K, rfl, hs, t, s, O, y, z, C, x, H, G, E, D⟩
   have hRz7_2 := t (E ai)
   have hRz12_2 := s (D ai)
   refine oV (xE (v := .agg (cL0 T.1 T.2.1 q T.2.2.1.length p).toArray) (fG rfl ai) rfl) rfl ?_
   exact oN ⟨rfl, rfl, N, M, j, m, l, B, A, c, e, d, q, p, U, X, K, fS rfl rfl, hs, (fun h => t h), (fun h => s h), O, y, z, (fun _ => (z ai)), x, H, G, E, D⟩
 · rintro L f w ⟨ai, _⟩ hL ⟨N, M, j, m, l, B, A, c, e, d, q, p, U, X, K, rfl, hs, t, s, O, y, z, C, x, H, G, E, D⟩
   have hRz7_2 := t (E ai)
   have hRz12_2 := s (D ai)
   refine oV (xE (v := iN T.2.2.2) (fG rfl ai) rfl) rfl ?_
   exact oN ⟨rfl, rfl, N, M, j, m, l, B, A, c, e, d, q, p, U, X, K, fS rfl rfl, hs, (fun h => t h), (fun h => s h), O, y, z, C, x, H, G, E, D⟩
 · rintro L f w _ hL ⟨N, M, j, m, l, B, A, c, e, d, q, p, U, X, K, rfl, hs, t, s, O, y, z, C, x, H, G, E, D⟩
   replace hs := hs.eqv (k := 1) rfl ((rL_f (show L 15 = false from pF x hL) ((rL_f hL (rL_n)))))
   refine ow_alloc hs ty26 rfl ?_
   clear hs; intro U w hs
   replace hs := hs.setE (k := 1) rfl
   replace hs := hs.eqv (k := 1) rfl (Eq.symm (a := rL [(15, blk U 26 (cL0 T.1 T.2.1 q T.2.2.1.length p)), (14, blk U 26 (cL0 0 0 none 0 0))] emp (setL L 14)) (((rL_f (L := setL L 14) (show L 15 = false from pF x hL) (rL_t (L := setL L 14) rfl)))))
   exact oN ⟨rfl, rfl, N, M, j, m, l, B, A, c, e, d, q, p, U, X, K, (Eq.trans (fSG (i := 14) rfl rfl) (rfl)), hs, (fun h => t h), (fun h => s h), O, y, z, C, (fun _ => rfl), H, G, E, D⟩
 · rintro L f w ⟨aH, aN, aj, aG, aF, aE, af, aD, aJ, aC, aw, aI, aQ, _, ai, _, _, _⟩ hL ⟨N, M, j, m, l, B, A, c, e, d, q, p, U, X, K, rfl, hs, t, s, O, y, z, C, x, H, G, E, D⟩
   have hRz7_2 := t af
   have hRz12_2 := s aw
   replace hs := hs.eqv (k := 1) rfl ((rL_f hL (rL_t aH)))
   refine oS (k := 1) (vs := (cL0 T.1 T.2.1 q T.2.2.1.length p)) (cs' := (cL0 T.1 T.2.1 q T.2.2.1.length p)) hs rfl (fG rfl aH) (fG rfl aN) ty26 rfl rfl (nLe rfl) rfl rfl ?_
   clear hs; intro w hs
   exact oN ⟨rfl, rfl, N, M, j, m, l, B, A, c, e, d, q, p, U, X, K, frL_no rfl, hs, (fun h => t h), (fun h => s h), O, (fun _ => aj), z, C, (fun _ => aH), H, G, E, D⟩
 · rintro L f w ⟨aS, a1, aG, aF, aE, af, aD, aJ, aC, aw, aI, aQ, aj, ai, aN, _, aH, _, _⟩ hL ⟨N, M, j, m, l, B, A, c, e, d, q, p, U, X, K, rfl, hs, t, s, O, y, z, C, x, H, G, E, D⟩
   have hRz7_2 := t af
   have hRz12_2 := s aw
   refine asI (fG rfl aS) ?_
   exact oN ⟨rfl, rfl, N, M, j, m, l, B, A, c, e, d, q, p, U, X, K, fS rfl rfl, hs, (fun h => t h), (fun h => s h), O, y, z, C, x, H, G, E, D⟩
 rintro L f w hall ⟨N, M, j, m, l, B, A, c, e, d, q, p, U, aT, aP, rfl, hs, hRz7_2, hRz12_2, _, _, _, _, _, _, _, _, _⟩
 rw [frL_tt _ rfl hall]
 replace hs := hs.eqv (k := 0) rfl (rL_t (hall 10 (nLe rfl)))
 replace hs := hs.eqv (k := 1) rfl (rL_t (hall 15 (nLe rfl)))
 replace hs := hs.eqv (k := 3) rfl (rL_t (hall 7 (nLe rfl)))
 replace hs := hs.eqv (k := 4) rfl (rL_t (hall 7 (nLe rfl)))
 replace hs := hs.eqv (k := 5) rfl (rL_t (hall 7 (nLe rfl)))
 replace hRz7_2 := hRz7_2 (hall 3 (nLe rfl))
 replace hRz12_2 := hRz12_2 (hall 7 (nLe rfl))
 refine sK ?_
 have aA := (iS hm).1
 replace hm := (iS hm).2
 refine cD mixed rfl (fun f0 L f w => ∃ (X : Im), Im.le aT X ∧ f = frL [(20, 0, pQ ab 0), (21, 1, pQ ab 0), (22, 2, pQ ab 1), (23, 3, .slice Q R S), (24, 4, pQ b1 1), (25, 5, iN W), (26, 6, pQ U 2), (27, 7, .slice q T.2.2.1.length p), (28, 8, .pointer (some (ea Q (W.toNat * 1))))] L f0 ∧ Sat X (rL [(9, emp)] (osl 3 1 q T.2.2.1.length p (T.2.2.1.flatMap e64)) L :: blk U 26 (cL0 T.1 T.2.1 q T.2.2.1.length p) :: blk b1 168 (cL13 av W ah ag au ar aq ap ao an Y ae Z.length ad) :: blk ab 161 (cL19 r8.2.2.2.1 Q R S e r8.2.2.2.2.2.length d) :: rL [(9, rowsP Q R S (c.set W.toNat (q, p)) (r8.2.2.2.2.1.set W.toNat T.2.2.1))] (rowsP Q R S c r8.2.2.2.2.1) L :: osl 3 1 e r8.2.2.2.2.2.length d (r8.2.2.2.2.2.flatMap e64) :: F) w ∧ (L 9 = true → L 8 = true)) ⟨aT, iR, (frL_ff _).symm, hs.drew, (fun h => by cases h)⟩ ⟨?_, ?_, ?_, ?_, ?_, ?_, ?_, ?_, ?_, ?_, trivial⟩ ?_
 all_goals clear hs
 · rintro L f w _ hL ⟨X, K, rfl, hs, V⟩
   refine mP rfl ?_
   exact oN ⟨rfl, rfl, X, K, fS rfl rfl, hs, V⟩
 · rintro L f w ⟨aG, _⟩ hL ⟨X, K, rfl, hs, V⟩
   refine oV (x_nilCheck (fG rfl aG)) rfl ?_
   exact oN ⟨rfl, rfl, X, K, fS rfl rfl, hs, V⟩
 · rintro L f w ⟨aF, _⟩ hL ⟨X, K, rfl, hs, V⟩
   refine oF (b := ab) (o := 0) fl161_1 (fG rfl aF) ?_
   exact oN ⟨rfl, rfl, X, K, fS rfl rfl, hs, V⟩
 · rintro L f w ⟨aE, _⟩ hL ⟨X, K, rfl, hs, V⟩
   refine ld1 (k := 3) hs rfl (fG rfl aE) ty57 rfl ?_
   exact oN ⟨rfl, rfl, X, K, fS rfl rfl, hs, V⟩
 · rintro L f w _ hL ⟨X, K, rfl, hs, V⟩
   refine oF (b := b1) (o := 0) fl168_1 rfl ?_
   exact oN ⟨rfl, rfl, X, K, fS rfl rfl, hs, V⟩
 · rintro L f w ⟨aD, _⟩ hL ⟨X, K, rfl, hs, V⟩
   refine ld1 (k := 2) hs rfl (fG rfl aD) ty3 rfl ?_
   exact oN ⟨rfl, rfl, X, K, fS rfl rfl, hs, V⟩
 · rintro L f w _ hL ⟨X, K, rfl, hs, V⟩
   refine oF (b := U) (o := 0) fl26_2 rfl ?_
   exact oN ⟨rfl, rfl, X, K, fS rfl rfl, hs, V⟩
 · rintro L f w ⟨aC, _⟩ hL ⟨X, K, rfl, hs, V⟩
   refine ld1 (k := 1) hs rfl (fG rfl aC) ty24 rfl ?_
   exact oN ⟨rfl, rfl, X, K, fS rfl rfl, hs, V⟩
 · rintro L f w ⟨af, aJ, aG, aF, aE, _, aD, _, aC, aw, _⟩ hL ⟨X, K, rfl, hs, V⟩
   replace hs := hs.eqv (k := 4) rfl ((rL_f (show L 9 = false from pF V hL) (rL_n)))
   have a0 := (hs.rowsLen (k := 4) rfl).2
   refine oI (i := W) sl57 ty24 (fG rfl af) (fG rfl aJ) aA.1 (by have := aA; omega) (sep_some hs (k := 4) rfl (by have := aA; omega)) ?_
   replace hs := hs.eqv (k := 4) rfl (Eq.symm (a := rL [(9, rowsP Q R S (c.set W.toNat (q, p)) (r8.2.2.2.2.1.set W.toNat T.2.2.1))] (rowsP Q R S c r8.2.2.2.2.1) (setL L 8)) (((rL_f (L := setL L 8) (show L 9 = false from pF V hL) (rL_n)))))
   exact oN ⟨rfl, rfl, X, K, fS rfl rfl, hs, (fun _ => rfl)⟩
 · rintro L f w ⟨aI, aw, aG, aF, aE, af, aD, aJ, aC, _, _⟩ hL ⟨X, K, rfl, hs, V⟩
   replace hs := hs.eqv (k := 0) rfl ((rL_f hL (rL_n)))
   replace hs := hs.eqv (k := 4) rfl ((rL_f hL (rL_n)))
   refine ow_storeRow (k := 4) (k2 := 0) (i := W) (xs := T.2.2.1) hs rfl rfl rfl (fG rfl aI) (fG rfl aw) ty24 aA.1 aA.2 ?_
   clear hs; intro w hs
   exact oN ⟨rfl, rfl, X, K, frL_no rfl, hs, (fun _ => aI)⟩
 rintro L f w hall ⟨aZ, aO, rfl, hs, _⟩
 rw [frL_tt _ rfl hall]
 replace hs := hs.eqv (k := 0) rfl (rL_t (hall 9 (nLe rfl)))
 replace hs := hs.eqv (k := 4) rfl (rL_t (hall 9 (nLe rfl)))
 refine rK (rs := []) (vs := []) (.inl rfl) rfl trivial ?_
 obtain rfl := oJ hm
 replace hs := hs.erase 0
 replace hs := hs.erase 0
 replace hs := hs.erase 0
 exact ⟨aZ, c.set W.toNat (q, p), e, d, (aP.trans aO), hs, rfl⟩
def f19_l0 (D : Int) (aC : Int) : Nat → Int → (List (List Int)) → Option (List (List Int))
  | 0, _, _ => none
  | k + 1, aT, aK => (if aT < aC then (if 0 ≤ D ∧ D ≤ D ∧ D ≤ 1099511627776 then (if aK.length + 1 ≤ 1099511627776 then (f19_l0 D aC k (w64 (aT + 1)) (aK ++ [List.replicate D.toNat (0 : Int)])) else none) else none) else some aK)
def f19_l1 (x : Int) (ad : List Int) (x2 : List (Int × Int × List Int)) : Nat → Int → (List Int) → Option (List Int)
  | 0, _, _ => none
  | k + 1, t, ar => (if t < (ad.length : Int) then (if 0 ≤ t ∧ t < (ad.length : Int) then (if 0 ≤ (at' ad t) then (if 0 ≤ (at' ad t) ∧ (at' ad t) ≤ ((List.replicate x.toNat (0 : Int)).length : Int) then (if 0 ≤ t ∧ t < (x2.length : Int) then (if (at' ad t).toNat + ((at' x2 t).2.2).length ≤ ar.length then (f19_l1 x ad x2 k (w64 (t + 1)) (ar.take ((at' ad t).toNat) ++ ((at' x2 t).2.2) ++ ar.drop ((at' ad t).toNat + ((at' x2 t).2.2).length))) else none) else none) else none) else (f19_l1 x ad x2 k (w64 (t + 1)) ar)) else none) else some ar)
def f19_l2 (s : List (T4x)) : Nat → Int → (List Int) → Int → (List (List Int)) → Option (List Int × Int × List (List Int))
  | 0, _, _, _, _ => none
  | k + 1, d, G, ak, aB => (if d < (s.length : Int) then (if 0 ≤ d ∧ d < (s.length : Int) then (if (at' s d).1 = 1 then ((f75_m ak aB G ((at' s d).1) ((at' s d).2.1) ((at' s d).2.2.1) ((at' s d).2.2.2.1) ((at' s d).2.2.2.2.1) ((at' s d).2.2.2.2.2.1) ((at' s d).2.2.2.2.2.2.1) ((at' s d).2.2.2.2.2.2.2.1) ((at' s d).2.2.2.2.2.2.2.2.1) ((at' s d).2.2.2.2.2.2.2.2.2.1) ((at' s d).2.2.2.2.2.2.2.2.2.2.1) ((at' s d).2.2.2.2.2.2.2.2.2.2.2)).bind fun bb => (f19_l2 s k (w64 (d + 1)) bb.2.2 bb.1 bb.2.1)) else (if (at' s d).1 = 2 then ((f76_m ak aB G ((at' s d).1) ((at' s d).2.1) ((at' s d).2.2.1) ((at' s d).2.2.2.1) ((at' s d).2.2.2.2.1) ((at' s d).2.2.2.2.2.1) ((at' s d).2.2.2.2.2.2.1) ((at' s d).2.2.2.2.2.2.2.1) ((at' s d).2.2.2.2.2.2.2.2.1) ((at' s d).2.2.2.2.2.2.2.2.2.1) ((at' s d).2.2.2.2.2.2.2.2.2.2.1) ((at' s d).2.2.2.2.2.2.2.2.2.2.2)).bind fun a4 => (f19_l2 s k (w64 (d + 1)) a4.2.2 a4.1 a4.2.1)) else (if (at' s d).1 = 4 then ((f78_m ak aB G ((at' s d).1) ((at' s d).2.1) ((at' s d).2.2.1) ((at' s d).2.2.2.1) ((at' s d).2.2.2.2.1) ((at' s d).2.2.2.2.2.1) ((at' s d).2.2.2.2.2.2.1) ((at' s d).2.2.2.2.2.2.2.1) ((at' s d).2.2.2.2.2.2.2.2.1) ((at' s d).2.2.2.2.2.2.2.2.2.1) ((at' s d).2.2.2.2.2.2.2.2.2.2.1) ((at' s d).2.2.2.2.2.2.2.2.2.2.2)).bind fun a3 => (f19_l2 s k (w64 (d + 1)) a3.2.2 a3.1 a3.2.1)) else (if (at' s d).1 = 5 then ((f79_m ak aB G ((at' s d).1) ((at' s d).2.1) ((at' s d).2.2.1) ((at' s d).2.2.2.1) ((at' s d).2.2.2.2.1) ((at' s d).2.2.2.2.2.1) ((at' s d).2.2.2.2.2.2.1) ((at' s d).2.2.2.2.2.2.2.1) ((at' s d).2.2.2.2.2.2.2.2.1) ((at' s d).2.2.2.2.2.2.2.2.2.1) ((at' s d).2.2.2.2.2.2.2.2.2.2.1) ((at' s d).2.2.2.2.2.2.2.2.2.2.2)).bind fun ba => (f19_l2 s k (w64 (d + 1)) ba.2.2 ba.1 ba.2.1)) else none)))) else none) else some (G, ak, aB))
def f19_m (D : Int) (aC : Int) (x : Int) (V : Int) (U : Int) (ad : List Int) (ag : Int) (s : List (T4x)) (x2 : List (Int × Int × List Int)) : Option (Int × Int × List Int × Int) :=
  ((f41_m D aC x V U ad ag s).bind fun r7 => (if ¬ (r7 = 0) then some (0, 0, ([] : List Int), r7) else ((f42_m x2 (ad.length : Int) V U).bind fun cT => (if (!cT) = true then some (0, 0, ([] : List Int), 2) else (if 0 ≤ x ∧ x ≤ x ∧ x ≤ 1099511627776 then ((f19_l0 D aC FUEL 0 ([] : List (List Int))).bind fun (b6 : List (List Int)) => ((f19_l1 x ad x2 FUEL 0 (List.replicate x.toNat (0 : Int))).bind fun (b7 : List Int) => ((f43_m ).bind fun dq => ((f19_l2 s FUEL 0 b7 D b6).bind fun (aA : List Int × Int × List (List Int)) => (if 0 ≤ ag ∧ ag ≤ (aA.1.length : Int) then (if 0 ≤ (w64 (V * U)) ∧ ag + (w64 (V * U)) ≤ (aA.1.length : Int) then (if (w64 (V * U)) ≤ 1099511627776 then some (V, U, (aA.1.drop ag.toNat).take (w64 (V * U)).toNat, 0) else none) else none) else none))))) else none)))))
theorem f19_ok (D : Int) (aC : Int) (x : Int) (V : Int) (U : Int) (ad : List Int) (ag : Int) (s : List (T4x)) (x2 : List (Int × Int × List Int)) {r : Int × Int × List Int × Int} (hm : f19_m D aC x V U ad ag s x2 = some r) {aJ : Option Addr} {aH : Nat} {aI : Option Addr} {aG : Nat} {bP : Option Addr} {cg : Nat} {I : Im} {F : List HP} {w : World} (hs : Sat I (F) w) (bC : Rs I 1 aJ ad.length aH (ad.flatMap e64)) (bB : SN168 I aI s.length aG s) (bT : SN26 I bP x2.length cg x2) :
    CV P 19 [.agg (cL1 D aC x).toArray, .agg (cL16 V U aJ ad.length aH ag aI s.length aG).toArray, .slice bP x2.length cg] w fun v w' => ∃ (J : Im) (a2 : Option Addr) (c2 : Nat), Im.le I J ∧ Sat J (F) w' ∧ v = .tuple #[.agg (cL0 r.1 r.2.1 a2 r.2.2.1.length c2).toArray, iN r.2.2.2] ∧ Rs J 1 a2 r.2.2.1.length c2 (r.2.2.1.flatMap e64) := by
 unfold f19_m at hm
 refine cv_of (n := 116) Proofs.Tryz.func19 rfl rfl (nLe rfl) <| cQ <| cR <| oB (v := .agg (cL1 D aC x).toArray) (cs := (cL1 D aC x)) hs rfl rfl ?_
 clear hs; intro b1 w hs
 refine oB (v := .agg (cL16 V U aJ ad.length aH ag aI s.length aG).toArray) (cs := (cL16 V U aJ ad.length aH ag aI s.length aG)) hs rfl rfl ?_
 clear hs; intro b3 w hs
 refine ow_alloc hs ty26 rfl ?_
 clear hs; intro b5 w hs
 refine asI rfl <| oN <| sQR <| cQ <| cR <| oL (k := 2) (vs := (cL1 D aC x)) (v := .agg (cL1 D aC x).toArray) hs rfl rfl ty46 rfl rfl rfl <| oL (k := 1) (vs := (cL16 V U aJ ad.length aH ag aI s.length aG)) (v := .agg (cL16 V U aJ ad.length aH ag aI s.length aG).toArray) hs rfl rfl ty81 rfl rfl rfl ?_
 obtain ⟨r7, dH, hm⟩ := bS hm
 refine oC (fi := []) (vs := [.agg (cL1 D aC x).toArray, .agg (cL16 V U aJ ad.length aH ag aI s.length aG).toArray]) (ca := []) rfl ⟨rfl, rfl, trivial⟩ en41 (f41_ok _ _ _ _ _ _ _ _ dH hs bC bB) ?_
 clear hs; rintro _ w ⟨J9, br, hs, rfl⟩
 refine asI rfl <| oN <| sQR <| cR <| mI rfl <| oV (x_neqD rfl rfl) rfl <| oN <| sK ?_
 by_cases cq : ¬ (r7 = 0)
 · rw [if_pos cq] at hm
   refine cIt rfl (dT cq) <| cQ <| cR <| oU (vp := []) (cs := (cL0 0 0 none 0 0)) st26 ty26 trivial rfl <| mI rfl <| oS (k := 0) (vs := (cL0 0 0 none 0 0)) (cs' := (cL0 0 0 none 0 0)) hs rfl rfl rfl ty26 rfl rfl (nLe rfl) rfl rfl ?_
   clear hs; intro w hs
   refine asI rfl <| oN <| sK <| cw_ret <| seqK_r <| rK (rs := [.cell 6 26, .tmp 7]) (vs := [.agg (cL0 0 0 none 0 0).toArray, iN r7]) (.inr rfl) rfl ⟨⟨_, true, _, (cL0 0 0 none 0 0), rfl, ty26, CA_blk (off := 0) (m := 3) (hs.blk (k := 0) rfl), rfl, rfl⟩, rfl, trivial⟩ ?_
   obtain rfl := oJ hm
   replace hs := hs.erase 0
   replace hs := hs.erase 0
   replace hs := hs.erase 0
   exact ⟨J9, none, 0, br, hs, rfl, (Rs.nil _ _ _)⟩
 rw [if_neg cq] at hm
 refine cIf rfl (dF cq) <| cw_skip <| sQR <| cQ <| cR <| mS rfl <| oF (b := b3) (o := 0) fl81_2 rfl <| ld1 (k := 1) hs rfl rfl ty24 rfl <| oV (x_len sl24 rfl) rfl <| oF (b := b3) (o := 0) fl81_0 rfl <| ld1 (k := 1) hs rfl rfl ty3 rfl ?_
 refine oF (b := b3) (o := 0) fl81_1 rfl <| ld1 (k := 1) hs rfl rfl ty3 rfl ?_
 obtain ⟨cT, dr, hm⟩ := bS hm
 replace bT := bT.mono br
 refine oC (fi := []) (vs := (cL18 bP x2.length cg (ad.length : Int) V U)) (ca := []) rfl ⟨rfl, rfl, rfl, rfl, trivial⟩ en42 (f42_ok _ _ _ _ dr hs bT) ?_
 clear hs; rintro _ w ⟨dl, bq, hs, rfl⟩
 refine oV (x_not (b := cT) rfl) rfl <| oN <| sK ?_
 by_cases cp : (!cT) = true
 · rw [if_pos cp] at hm
   refine cIt rfl cp <| cQ <| cR <| oU (vp := []) (cs := (cL0 0 0 none 0 0)) st26 ty26 trivial rfl <| oS (k := 0) (vs := (cL0 0 0 none 0 0)) (cs' := (cL0 0 0 none 0 0)) hs rfl rfl rfl ty26 rfl rfl (nLe rfl) rfl rfl ?_
   clear hs; intro w hs
   refine asI rfl <| oN <| sK <| cw_ret <| seqK_r <| rK (rs := [.cell 6 26, .tmp 7]) (vs := [.agg (cL0 0 0 none 0 0).toArray, iN 2]) (.inr rfl) rfl ⟨⟨_, true, _, (cL0 0 0 none 0 0), rfl, ty26, CA_blk (off := 0) (m := 3) (hs.blk (k := 0) rfl), rfl, rfl⟩, rfl, trivial⟩ ?_
   obtain rfl := oJ hm
   replace hs := hs.erase 0
   replace hs := hs.erase 0
   replace hs := hs.erase 0
   exact ⟨dl, none, 0, (br.trans bq), hs, rfl, (Rs.nil _ _ _)⟩
 rw [if_neg cp] at hm
 refine cIf rfl (bF cp) <| cw_skip <| sQR ?_
 have cG := (iS hm).1
 replace hm := (iS hm).2
 replace hs := hs.pushEmp
 replace hs := hs.pushEmp
 replace hs := hs.pushEmp
 refine cD mixed rfl (fun f0 L f w => ∃ (az : Option Addr) (ah : Nat) (E : Im), Im.le dl E ∧ f = frL [(33, 0, pQ b1 0), (34, 1, iN D), (35, 2, pQ b1 2), (36, 3, iN x), (37, 4, .slice az ((List.replicate x.toNat (0 : Int)).length) x.toNat), (38, 5, .agg (cL19 D none 0 0 az ((List.replicate x.toNat (0 : Int)).length) x.toNat).toArray), (39, 6, pQ ah 0), (9, 7, pQ ah 0)] L f0 ∧ Sat E (rL [(4, osl 3 1 az (List.replicate x.toNat (0 : Int)).length x.toNat ((List.replicate x.toNat (0 : Int)).flatMap e64))] emp L :: rL [(6, rowsP none 0 0 [] ([] : List (List Int)))] emp L :: rL [(6, blk ah 161 (cL19 D none 0 0 az ((List.replicate x.toNat (0 : Int)).length) x.toNat))] emp L :: blk b5 26 (cL0 0 0 none 0 0) :: blk b3 81 (cL16 V U aJ ad.length aH ag aI s.length aG) :: blk b1 46 (cL1 D aC x) :: F) w ∧ (L 5 = true → L 4 = true) ∧ (L 6 = true → L 4 = true) ∧ (L 7 = true → L 6 = true)) ⟨none, 0, dl, iR, (frL_ff _).symm, hs.drew, (fun h => by cases h), (fun h => by cases h), (fun h => by cases h)⟩ ⟨?_, ?_, ?_, ?_, ?_, ?_, ?_, ?_, trivial⟩ ?_
 all_goals clear hs
 · rintro L f w _ hL ⟨az, ah, E, e, rfl, hs, aR, aQ, aS⟩
   refine oF (b := b1) (o := 0) fl46_0 rfl ?_
   exact oN ⟨rfl, rfl, az, ah, E, e, fS rfl rfl, hs, aR, aQ, aS⟩
 · rintro L f w ⟨a8, _⟩ hL ⟨az, ah, E, e, rfl, hs, aR, aQ, aS⟩
   refine ld1 (k := 5) hs rfl (fG rfl a8) ty3 rfl ?_
   exact oN ⟨rfl, rfl, az, ah, E, e, fS rfl rfl, hs, aR, aQ, aS⟩
 · rintro L f w _ hL ⟨az, ah, E, e, rfl, hs, aR, aQ, aS⟩
   refine oF (b := b1) (o := 0) fl46_2 rfl ?_
   exact oN ⟨rfl, rfl, az, ah, E, e, fS rfl rfl, hs, aR, aQ, aS⟩
 · rintro L f w ⟨aZ, _⟩ hL ⟨az, ah, E, e, rfl, hs, aR, aQ, aS⟩
   refine ld1 (k := 5) hs rfl (fG rfl aZ) ty3 rfl ?_
   exact oN ⟨rfl, rfl, az, ah, E, e, fS rfl rfl, hs, aR, aQ, aS⟩
 · rintro L f w ⟨aY, _, _⟩ hL ⟨az, ah, E, e, rfl, hs, aR, aQ, aS⟩
   replace hs := hs.eqv (k := 0) rfl ((rL_f hL (rL_n)))
   replace hs := hs.eqv (k := 2) rfl ((rL_f (show L 6 = false from pF aQ hL) (rfl)))
   refine ow_makeT (enc := e64) (z := (0 : Int)) (i := x) (j := x) hs sl24 ty3 el3 rfl rfl (fG rfl aY) (fG rfl aY) cG.1 cG.2.1 cG.2.2 (by decide) ?_
   clear hs; intro az w hs
   replace hs := hs.setE (k := 0) rfl
   replace hs := hs.eqv (k := 2) rfl (Eq.symm (a := rL [(6, blk ah 161 (cL19 D none 0 0 az ((List.replicate x.toNat (0 : Int)).length) x.toNat))] emp (setL L 4)) (((rL_f (L := setL L 4) (show L 6 = false from pF aQ hL) (rfl)))))
   exact oN ⟨rfl, rfl, az, ah, E, e, (Eq.trans (fSG (i := 4) rfl rfl) (Eq.trans (fD (u := undef) (i := 5) (v := .agg (cL19 D none 0 0 az ((List.replicate x.toNat (0 : Int)).length) x.toNat).toArray) (L := setL L 4) (show L 5 = false from pF aR hL)) (rfl))), hs, (fun _ => rfl), (fun _ => rfl), aS⟩
 · rintro L f w ⟨a5, aW, _⟩ hL ⟨az, ah, E, e, rfl, hs, aR, aQ, aS⟩
   refine oU (vp := [(0, iN D), (2, .slice az ((List.replicate x.toNat (0 : Int)).length) x.toNat)]) (cs := (cL19 D none 0 0 az ((List.replicate x.toNat (0 : Int)).length) x.toNat)) st161 ty161 ⟨rfl, (fG rfl a5), rfl, (fG rfl aW), trivial⟩ rfl ?_
   exact oN ⟨rfl, rfl, az, ah, E, e, fS rfl rfl, hs, (fun _ => aW), aQ, aS⟩
 · rintro L f w ⟨a1, _⟩ hL ⟨az, ah, E, e, rfl, hs, aR, aQ, aS⟩
   replace hs := hs.eqv (k := 1) rfl ((rL_f hL (rL_n)))
   replace hs := hs.eqv (k := 2) rfl ((rL_f hL (rL_n)))
   refine oB (v := .agg (cL19 D none 0 0 az ((List.replicate x.toNat (0 : Int)).length) x.toNat).toArray) (cs := (cL19 D none 0 0 az ((List.replicate x.toNat (0 : Int)).length) x.toNat)) hs (fG rfl a1) rfl ?_
   clear hs; intro ah w hs
   replace hs := hs.rowsNil
   replace hs := hs.setE (k := 2) rfl
   replace hs := hs.setE (k := 2) rfl
   exact oN ⟨rfl, rfl, az, ah, E, e, (Eq.trans (fSG (i := 6) rfl rfl) (Eq.trans (fD (u := undef) (i := 7) (v := pQ ah 0) (L := setL L 6) (show L 7 = false from pF aS hL)) (rfl))), hs, aR, (fun _ => (aR a1)), (fun _ => rfl)⟩
 · rintro L f w ⟨a0, a8, a5, aZ, aY, aW, a1, _, _⟩ hL ⟨az, ah, E, e, rfl, hs, aR, aQ, aS⟩
   refine asP (fG rfl a0) ?_
   exact oN ⟨rfl, rfl, az, ah, E, e, fS rfl rfl, hs, aR, aQ, (fun _ => a0)⟩
 rintro L f w hall ⟨az, ah, dm, bG, rfl, hs, _, _, _⟩
 rw [frL_tt _ rfl hall]
 replace hs := hs.eqv (k := 0) rfl (rL_t (hall 4 (nLe rfl)))
 replace hs := hs.eqv (k := 1) rfl (rL_t (hall 6 (nLe rfl)))
 replace hs := hs.eqv (k := 2) rfl (rL_t (hall 6 (nLe rfl)))
 refine sK ?_
 obtain ⟨b6, cc, dt⟩ := bS hm
 replace hm := cc; clear cc
 refine cJ (fun f ds w => ∃ (A : Option Addr) (l : Nat) (y : Nat) (aw : List Rh) (cx : Im), ds = [] ∧ Im.le dm cx ∧ Sat cx (osl 3 1 az (List.replicate x.toNat (0 : Int)).length x.toNat ((List.replicate x.toNat (0 : Int)).flatMap e64) :: rowsP A l y aw b6 :: blk ah 161 (cL19 D A l y az ((List.replicate x.toNat (0 : Int)).length) x.toNat) :: blk b5 26 (cL0 0 0 none 0 0) :: blk b3 81 (cL16 V U aJ ad.length aH ag aI s.length aG) :: blk b1 46 (cL1 D aC x) :: F) w ∧ f 2 = .slice bP x2.length cg ∧ f 4 = pQ b3 0 ∧ f 6 = pQ b5 0 ∧ f 7 = iN 0 ∧ f 9 = pQ ah 0) ?_ ?_
 · refine cQ <| cR <| oF (b := b1) (o := 0) fl46_1 rfl <| ld1 (k := 5) hs rfl rfl ty3 rfl <| mI rfl <| oN <| sK <| cw_block ?_
   refine cL (S := fun k f ds w => ∃ (aT : Int) (aK : List (List Int)), ∃ (A : Option Addr) (l : Nat) (y : Nat) (aw : List Rh) (cw : Im), ds = [] ∧ Im.le dm cw ∧ f19_l0 D aC k aT aK = some b6 ∧ Sat cw (osl 3 1 az (List.replicate x.toNat (0 : Int)).length x.toNat ((List.replicate x.toNat (0 : Int)).flatMap e64) :: rowsP A l y aw aK :: blk ah 161 (cL19 D A l y az ((List.replicate x.toNat (0 : Int)).length) x.toNat) :: blk b5 26 (cL0 0 0 none 0 0) :: blk b3 81 (cL16 V U aJ ad.length aH ag aI s.length aG) :: blk b1 46 (cL1 D aC x) :: F) w ∧ f 2 = .slice bP x2.length cg ∧ f 3 = pQ b1 0 ∧ f 4 = pQ b3 0 ∧ f 6 = pQ b5 0 ∧ f 7 = iN 0 ∧ f 9 = pQ ah 0 ∧ f 41 = iN aC ∧ f 42 = iN aT) ?_ (k := FUEL) ⟨0, ([] : List (List Int)), none, 0, 0, [], dm, rfl, iR, hm, hs, rfl, rfl, rfl, rfl, rfl, rfl, rfl, rfl⟩
   clear hm hs
   rintro k f ds w ⟨aT, aK, A, l, y, aw, cw, rfl, cE, hm, hs, cl, ck, cj, ci, ch, bA, cb, b9⟩
   rcases k with _ | k
   · unfold f19_l0 at hm; cases hm
   unfold f19_l0 at hm
   refine cQ <| cR <| oV (x_lss b9 cb) rfl <| oN <| sQR ?_
   by_cases co : aT < aC
   · rw [if_pos co] at hm
     refine cIt rfl (dT co) <| cw_skip <| sQR <| cw_block ?_
     have cF := (iS hm).1
     replace hm := (iS hm).2
     have dj := (iS hm).1
     replace hm := (iS hm).2
     replace hs := hs.pushEmp
     refine cD mixed rfl (fun f0 L f w => ∃ (aM : Option Addr) (aF : Option Addr) (av : Option Addr) (au : Nat) (E : Im), Im.le cw E ∧ f = frL [(44, 0, pQ ah 0), (45, 1, pQ ah 0), (46, 2, pQ ah 0), (47, 3, pQ ah 1), (48, 4, .slice A l y), (49, 5, pQ b1 0), (50, 6, iN D), (51, 7, .slice aM ((List.replicate D.toNat (0 : Int)).length) D.toNat), (52, 8, .slice aF 1 1), (53, 9, .slice av (l + 1) au), (54, 10, pQ ah 0), (55, 11, pQ ah 1)] L f0 ∧ Sat E (rL [(9, emp), (7, osl 3 1 aM (List.replicate D.toNat (0 : Int)).length D.toNat ((List.replicate D.toNat (0 : Int)).flatMap e64))] emp L :: osl 3 1 az (List.replicate x.toNat (0 : Int)).length x.toNat ((List.replicate x.toNat (0 : Int)).flatMap e64) :: rL [(9, rowsP av (l + 1) au (aw ++ [(aM, D.toNat)]) (aK ++ [List.replicate D.toNat (0 : Int)]))] (rowsP A l y aw aK) L :: rL [(12, blk ah 161 (cL19 D av (l + 1) au az ((List.replicate x.toNat (0 : Int)).length) x.toNat))] (blk ah 161 (cL19 D A l y az ((List.replicate x.toNat (0 : Int)).length) x.toNat)) L :: blk b5 26 (cL0 0 0 none 0 0) :: blk b3 81 (cL16 V U aJ ad.length aH ag aI s.length aG) :: blk b1 46 (cL1 D aC x) :: F) w ∧ (L 8 = true → Rs E 1 aF 1 1 [.slice aM ((List.replicate D.toNat (0 : Int)).length) D.toNat]) ∧ (L 12 = true → L 4 = true) ∧ (L 8 = true → L 7 = true) ∧ (L 9 = true → L 7 = true) ∧ (L 12 = true → L 9 = true)) ⟨none, none, none, 0, cw, iR, (frL_ff _).symm, hs.drew, (fun h => by cases h), (fun h => by cases h), (fun h => by cases h), (fun h => by cases h), (fun h => by cases h)⟩ ⟨?_, ?_, ?_, ?_, ?_, ?_, ?_, ?_, ?_, ?_, ?_, ?_, ?_, trivial⟩ ?_
     all_goals clear hs
     · rintro L f w _ hL ⟨aM, aF, av, au, E, e, rfl, hs, aj, am, ay, ax, al⟩
       refine mP bA ?_
       exact oN ⟨rfl, rfl, aM, aF, av, au, E, e, fS rfl rfl, hs, (fun h => aj h), am, ay, ax, al⟩
     · rintro L f w _ hL ⟨aM, aF, av, au, E, e, rfl, hs, aj, am, ay, ax, al⟩
       refine mP bA ?_
       exact oN ⟨rfl, rfl, aM, aF, av, au, E, e, fS rfl rfl, hs, (fun h => aj h), am, ay, ax, al⟩
     · rintro L f w ⟨a5, _⟩ hL ⟨aM, aF, av, au, E, e, rfl, hs, aj, am, ay, ax, al⟩
       refine oV (x_nilCheck (fG rfl a5)) rfl ?_
       exact oN ⟨rfl, rfl, aM, aF, av, au, E, e, fS rfl rfl, hs, (fun h => aj h), am, ay, ax, al⟩
     · rintro L f w ⟨aZ, _⟩ hL ⟨aM, aF, av, au, E, e, rfl, hs, aj, am, ay, ax, al⟩
       refine oF (b := ah) (o := 0) fl161_1 (fG rfl aZ) ?_
       exact oN ⟨rfl, rfl, aM, aF, av, au, E, e, fS rfl rfl, hs, (fun h => aj h), am, ay, ax, al⟩
     · rintro L f w ⟨aY, _⟩ hL ⟨aM, aF, av, au, E, e, rfl, hs, aj, am, ay, ax, al⟩
       replace hs := hs.eqv (k := 3) rfl ((rL_f (show L 12 = false from pF am hL) (rL_n)))
       refine ld1 (k := 3) hs rfl (fG rfl aY) ty57 rfl ?_
       replace hs := hs.eqv (k := 3) rfl (Eq.symm (a := rL [(12, blk ah 161 (cL19 D av (l + 1) au az ((List.replicate x.toNat (0 : Int)).length) x.toNat))] (blk ah 161 (cL19 D A l y az ((List.replicate x.toNat (0 : Int)).length) x.toNat)) (setL L 4)) (((rL_f (L := setL L 4) (show L 12 = false from pF am hL) (rL_n)))))
       exact oN ⟨rfl, rfl, aM, aF, av, au, E, e, fS rfl rfl, hs, (fun h => aj h), (fun _ => rfl), ay, ax, al⟩
     · rintro L f w _ hL ⟨aM, aF, av, au, E, e, rfl, hs, aj, am, ay, ax, al⟩
       refine oF (b := b1) (o := 0) fl46_0 ck ?_
       exact oN ⟨rfl, rfl, aM, aF, av, au, E, e, fS rfl rfl, hs, (fun h => aj h), am, ay, ax, al⟩
     · rintro L f w ⟨a1, _⟩ hL ⟨aM, aF, av, au, E, e, rfl, hs, aj, am, ay, ax, al⟩
       refine ld1 (k := 6) hs rfl (fG rfl a1) ty3 rfl ?_
       exact oN ⟨rfl, rfl, aM, aF, av, au, E, e, fS rfl rfl, hs, (fun h => aj h), am, ay, ax, al⟩
     · rintro L f w ⟨a0, _, _⟩ hL ⟨aM, aF, av, au, E, e, rfl, hs, aj, am, ay, ax, al⟩
       replace hs := hs.eqv (k := 0) rfl ((rL_f (show L 9 = false from pF ax hL) ((rL_f hL (rL_n)))))
       replace hs := hs.eqv (k := 2) rfl ((rL_f (show L 9 = false from pF ax hL) (rfl)))
       refine ow_makeT (enc := e64) (z := (0 : Int)) (i := D) (j := D) hs sl24 ty3 el3 rfl rfl (fG rfl a0) (fG rfl a0) cF.1 cF.2.1 cF.2.2 (by decide) ?_
       clear hs; intro aM w hs
       replace hs := hs.setE (k := 0) rfl
       replace hs := hs.eqv (k := 0) rfl (Eq.symm (a := rL [(9, emp), (7, osl 3 1 aM (List.replicate D.toNat (0 : Int)).length D.toNat ((List.replicate D.toNat (0 : Int)).flatMap e64))] emp (setL L 7)) (((rL_f (L := setL L 7) (show L 9 = false from pF ax hL) (rL_t (L := setL L 7) rfl)))))
       replace hs := hs.eqv (k := 2) rfl (Eq.symm (a := rL [(9, rowsP av (l + 1) au (aw ++ [(aM, D.toNat)]) (aK ++ [List.replicate D.toNat (0 : Int)]))] (rowsP A l y aw aK) (setL L 7)) (((rL_f (L := setL L 7) (show L 9 = false from pF ax hL) (rfl)))))
       exact oN ⟨rfl, rfl, aM, aF, av, au, E, e, (Eq.trans (fSG (i := 7) rfl rfl) (rfl)), hs, (fun h => vac (i := 7) (j := 8) (show L 8 = false from pF ay hL) rfl h), am, (fun _ => rfl), (fun _ => rfl), al⟩
     · rintro L f w ⟨bK, _⟩ hL ⟨aM, aF, av, au, E, e, rfl, hs, aj, am, ay, ax, al⟩
       refine ow_buildSlice (vp := [(0, .slice aM ((List.replicate D.toNat (0 : Int)).length) D.toNat)]) (cs := [.slice aM ((List.replicate D.toNat (0 : Int)).length) D.toNat]) hs sl57 ty24 rfl ⟨rfl, (fG rfl bK), trivial⟩ (by decide) rfl (by decide) ?_
       clear hs; intro aF dz w c8 hs a9
       exact oN ⟨rfl, rfl, aM, aF, av, au, dz, (e.trans c8), (Eq.trans (fSG (i := 8) rfl rfl) (rfl)), hs, (fun _ => a9), am, (fun _ => bK), ax, al⟩
     · rintro L f w ⟨aW, bk, _⟩ hL ⟨aM, aF, av, au, E, e, rfl, hs, aj, am, ay, ax, al⟩
       have a9 := aj bk
       replace hs := hs.eqv (k := 0) rfl ((rL_f hL (rL_t (ay bk))))
       replace hs := hs.eqv (k := 2) rfl ((rL_f hL (rL_n)))
       replace hs := hs.eqv (k := 3) rfl ((rL_f (show L 12 = false from pF al hL) (rfl)))
       refine ow_appendRow (k := 2) (k2 := 0) (xs := (List.replicate D.toNat (0 : Int))) hs rfl rfl rfl sl57 ty24 el24 (fG rfl aW) (fG rfl bk) a9 dj (by decide) ?_
       clear hs; intro av au w hs
       replace hs := hs.eqv (k := 3) rfl (Eq.symm (a := rL [(12, blk ah 161 (cL19 D av (l + 1) au az ((List.replicate x.toNat (0 : Int)).length) x.toNat))] (blk ah 161 (cL19 D A l y az ((List.replicate x.toNat (0 : Int)).length) x.toNat)) (setL L 9)) (((rL_f (L := setL L 9) (show L 12 = false from pF al hL) (rfl)))))
       exact oN ⟨rfl, rfl, aM, aF, av, au, E, e, (Eq.trans (fSG (i := 9) rfl rfl) (rfl)), hs, (fun h => aj h), am, ay, (fun _ => (ay bk)), (fun _ => rfl)⟩
     · rintro L f w ⟨a8, _, a5, aZ, aY, aW, a1, a0, bK, bk, bO, _⟩ hL ⟨aM, aF, av, au, E, e, rfl, hs, aj, am, ay, ax, al⟩
       have a9 := aj bk
       refine oV (x_nilCheck (fG rfl a8)) rfl ?_
       exact oN ⟨rfl, rfl, aM, aF, av, au, E, e, fS rfl rfl, hs, (fun h => aj h), am, ay, ax, al⟩
     · rintro L f w ⟨bx, a8, a5, aZ, aY, aW, a1, a0, bK, bk, bO, _⟩ hL ⟨aM, aF, av, au, E, e, rfl, hs, aj, am, ay, ax, al⟩
       have a9 := aj bk
       refine oF (b := ah) (o := 0) fl161_1 (fG rfl bx) ?_
       exact oN ⟨rfl, rfl, aM, aF, av, au, E, e, fS rfl rfl, hs, (fun h => aj h), am, ay, ax, al⟩
     · rintro L f w ⟨ce, bO, _, a8, a5, aZ, aY, aW, a1, a0, bK, bk, _, _⟩ hL ⟨aM, aF, av, au, E, e, rfl, hs, aj, am, ay, ax, al⟩
       have a9 := aj bk
       replace hs := hs.eqv (k := 3) rfl ((rL_f hL (rL_n)))
       refine oS (k := 3) (vs := [.slice av (l + 1) au]) (cs' := (cL19 D av (l + 1) au az ((List.replicate x.toNat (0 : Int)).length) x.toNat)) hs rfl (fG rfl ce) (fG rfl bO) ty57 rfl rfl (nLe rfl) rfl rfl ?_
       clear hs; intro w hs
       exact oN ⟨rfl, rfl, aM, aF, av, au, E, e, frL_no rfl, hs, (fun h => aj h), (fun _ => aW), ay, ax, (fun _ => bO)⟩
     rintro L f w hall ⟨aM, aF, av, au, dG, c7, rfl, hs, a9, _, _, _, _⟩
     rw [frL_tt _ rfl hall]
     replace hs := hs.eqv (k := 0) rfl (rL_t (hall 9 (nLe rfl)))
     replace hs := hs.eqv (k := 2) rfl (rL_t (hall 9 (nLe rfl)))
     replace hs := hs.eqv (k := 3) rfl (rL_t (hall 12 (nLe rfl)))
     replace a9 := a9 (hall 8 (nLe rfl))
     refine blockK_n <| sK <| cR <| oV (x_add b9 rfl) rfl <| mI rfl <| oN ?_
     replace hs := hs.erase 0
     exact lN ⟨k, Nat.lt_succ_self k, w64 (aT + 1), aK ++ [List.replicate D.toNat (0 : Int)], av, (l + 1), au, aw ++ [(aM, D.toNat)], dG, rfl, (cE.trans c7), hm, hs, cl, ck, cj, ci, ch, bA, cb, rfl⟩
   rw [if_neg co] at hm
   refine cIf rfl (dF co) <| cw_exit <| seqK_x <| loopK_x <| blockK_hit ?_
   obtain rfl := oJ hm
   refine jN ⟨A, l, y, aw, cw, rfl, cE, hs, cl, cj, ci, ch, bA⟩
 clear hm hs
 rintro f ds w ⟨A, l, y, aw, cx, rfl, bp, hs, cB, b8, cA, cz, cy⟩
 replace hm := dt
 obtain ⟨b7, cc, dg⟩ := bS hm
 replace hm := cc; clear cc
 refine cJ (fun f ds w => ∃ (cS : Im), ds = [] ∧ Im.le cx cS ∧ Sat cS (osl 3 1 az (List.replicate x.toNat (0 : Int)).length x.toNat (b7.flatMap e64) :: rowsP A l y aw b6 :: blk ah 161 (cL19 D A l y az ((List.replicate x.toNat (0 : Int)).length) x.toNat) :: blk b5 26 (cL0 0 0 none 0 0) :: blk b3 81 (cL16 V U aJ ad.length aH ag aI s.length aG) :: blk b1 46 (cL1 D aC x) :: F) w ∧ f 4 = pQ b3 0 ∧ f 6 = pQ b5 0 ∧ f 7 = iN 0 ∧ f 9 = pQ ah 0) ?_ ?_
 · refine cQ <| cR <| oF (b := b3) (o := 0) fl81_2 b8 <| ld1 (k := 4) hs rfl rfl ty24 rfl <| oV (x_len sl24 rfl) rfl <| mI rfl <| oN <| sK <| cw_block ?_
   refine cL (S := fun k f ds w => ∃ (t : Int) (ar : List Int), ∃ (bM : Im), ds = [] ∧ Im.le cx bM ∧ f19_l1 x ad x2 k t ar = some b7 ∧ Sat bM (osl 3 1 az (List.replicate x.toNat (0 : Int)).length x.toNat (ar.flatMap e64) :: rowsP A l y aw b6 :: blk ah 161 (cL19 D A l y az ((List.replicate x.toNat (0 : Int)).length) x.toNat) :: blk b5 26 (cL0 0 0 none 0 0) :: blk b3 81 (cL16 V U aJ ad.length aH ag aI s.length aG) :: blk b1 46 (cL1 D aC x) :: F) w ∧ f 2 = .slice bP x2.length cg ∧ f 4 = pQ b3 0 ∧ f 6 = pQ b5 0 ∧ f 7 = iN 0 ∧ f 9 = pQ ah 0 ∧ f 58 = .slice aJ ad.length aH ∧ f 59 = iN (ad.length : Int) ∧ f 60 = iN t) ?_ (k := FUEL) ⟨0, List.replicate x.toNat (0 : Int), cx, rfl, iR, hm, hs, cB, b8, cA, cz, cy, rfl, rfl, rfl⟩
   clear hm hs
   rintro k f ds w ⟨t, ar, bM, rfl, bj, hm, hs, bX, bW, bV, bU, bz, bE, bD, bg⟩
   rcases k with _ | k
   · unfold f19_l1 at hm; cases hm
   unfold f19_l1 at hm
   refine cQ <| cR <| oV (x_lss bg bD) rfl <| oN <| sQR ?_
   by_cases b4 : t < (ad.length : Int)
   · rw [if_pos b4] at hm
     refine cIt rfl (dT b4) <| cw_skip <| sQR <| cw_block <| cQ <| cR <| mI bg ?_
     have bJ := (iS hm).1
     replace hm := (iS hm).2
     replace bC := bC.mono ((((br.trans bq).trans bG).trans bp).trans bj)
     refine oI (i := t) sl24 ty3 bE bg bJ.1 bJ.2 (Rs.some bC (by have := bJ; omega)) <| oLR (p := t.toNat * 1) (vs := [iN (at' ad t)]) (v := iN (at' ad t)) hs bC rfl ty3 (flat_at (enc := e64) (sz := 1) (fun _ => rfl) ad t bJ.1 bJ.2 0 1 (by decide)) rfl rfl <| asI rfl <| asI rfl <| oN <| sQR <| cR <| mI rfl <| oV (x_geq rfl rfl) rfl <| oN <| sK ?_
     by_cases b2 : 0 ≤ (at' ad t)
     · rw [if_pos b2] at hm
       refine cIt rfl (dT b2) ?_
       have cH := (iS hm).1
       replace hm := (iS hm).2
       have bI := (iS hm).1
       replace hm := (iS hm).2
       have di := (iS hm).1
       replace hm := (iS hm).2
       refine cD mixed rfl (fun f0 L f w => ∃ (aE : Option Addr) (aD : Nat) (E : Im), Im.le bM E ∧ f = frL [(67, 0, pQ ah 0), (68, 1, pQ ah 0), (69, 2, pQ ah 2), (70, 3, .slice az ((List.replicate x.toNat (0 : Int)).length) x.toNat), (71, 4, iN (at' ad t)), (72, 5, .slice (so az x.toNat (at' ad t).toNat 1) ((List.replicate x.toNat (0 : Int)).length - (at' ad t).toNat) (x.toNat - (at' ad t).toNat)), (73, 6, .slice bP x2.length cg), (74, 7, iN t), (75, 8, .pointer (some (ea bP (t.toNat * 3)))), (76, 9, .pointer (some (ea bP (t.toNat * 3 + 2)))), (77, 10, .slice aE (((at' x2 t).2.2).length) aD), (78, 11, iN (((at' x2 t).2.2).length : Int))] L f0 ∧ Sat E (rL [(11, osl 3 1 az (List.replicate x.toNat (0 : Int)).length x.toNat ((ar.take ((at' ad t).toNat) ++ ((at' x2 t).2.2) ++ ar.drop ((at' ad t).toNat + ((at' x2 t).2.2).length)).flatMap e64))] (osl 3 1 az (List.replicate x.toNat (0 : Int)).length x.toNat (ar.flatMap e64)) L :: rowsP A l y aw b6 :: blk ah 161 (cL19 D A l y az ((List.replicate x.toNat (0 : Int)).length) x.toNat) :: blk b5 26 (cL0 0 0 none 0 0) :: blk b3 81 (cL16 V U aJ ad.length aH ag aI s.length aG) :: blk b1 46 (cL1 D aC x) :: F) w ∧ (L 10 = true → Rs E 1 aE ((at' x2 t).2.2).length aD (((at' x2 t).2.2).flatMap e64))) ⟨none, 0, bM, iR, (frL_ff _).symm, hs.drew, (fun h => by cases h)⟩ ⟨?_, ?_, ?_, ?_, ?_, ?_, ?_, ?_, ?_, ?_, ?_, ?_, trivial⟩ ?_
       all_goals clear hs
       · rintro L f w _ hL ⟨aE, aD, E, e, rfl, hs, aq⟩
         refine mP bz ?_
         exact oN ⟨rfl, rfl, aE, aD, E, e, fS rfl rfl, hs, (fun h => aq h)⟩
       · rintro L f w ⟨a8, _⟩ hL ⟨aE, aD, E, e, rfl, hs, aq⟩
         refine oV (x_nilCheck (fG rfl a8)) rfl ?_
         exact oN ⟨rfl, rfl, aE, aD, E, e, fS rfl rfl, hs, (fun h => aq h)⟩
       · rintro L f w ⟨a5, _⟩ hL ⟨aE, aD, E, e, rfl, hs, aq⟩
         refine oF (b := ah) (o := 0) fl161_2 (fG rfl a5) ?_
         exact oN ⟨rfl, rfl, aE, aD, E, e, fS rfl rfl, hs, (fun h => aq h)⟩
       · rintro L f w ⟨aZ, _⟩ hL ⟨aE, aD, E, e, rfl, hs, aq⟩
         refine ld1 (k := 2) hs rfl (fG rfl aZ) ty24 rfl ?_
         exact oN ⟨rfl, rfl, aE, aD, E, e, fS rfl rfl, hs, (fun h => aq h)⟩
       · rintro L f w _ hL ⟨aE, aD, E, e, rfl, hs, aq⟩
         refine mI rfl ?_
         exact oN ⟨rfl, rfl, aE, aD, E, e, fS rfl rfl, hs, (fun h => aq h)⟩
       · rintro L f w ⟨aY, aW, _⟩ hL ⟨aE, aD, E, e, rfl, hs, aq⟩
         refine oV (x_slice_lo (i := (at' ad t)) sl24 ty3 (fG rfl aY) (fG rfl aW) cH.1 cH.2) rfl ?_
         exact oN ⟨rfl, rfl, aE, aD, E, e, fS rfl rfl, hs, (fun h => aq h)⟩
       · rintro L f w _ hL ⟨aE, aD, E, e, rfl, hs, aq⟩
         refine mS bX ?_
         exact oN ⟨rfl, rfl, aE, aD, E, e, fS rfl rfl, hs, (fun h => aq h)⟩
       · rintro L f w _ hL ⟨aE, aD, E, e, rfl, hs, aq⟩
         refine mI rfl ?_
         exact oN ⟨rfl, rfl, aE, aD, E, e, fS rfl rfl, hs, (fun h => aq h)⟩
       · rintro L f w ⟨a0, bK, _⟩ hL ⟨aE, aD, E, e, rfl, hs, aq⟩
         replace bT := bT.mono ((((bq.trans bG).trans bp).trans bj).trans e)
         refine oI (i := t) sl86 ty26 (fG rfl a0) (fG rfl bK) bI.1 bI.2 (SN26.some bT (by have := bI; omega)) ?_
         exact oN ⟨rfl, rfl, aE, aD, E, e, fS rfl rfl, hs, (fun h => aq h)⟩
       · rintro L f w ⟨bk, _⟩ hL ⟨aE, aD, E, e, rfl, hs, aq⟩
         refine ow_fieldE (p := t.toNat * 3) (oa := bP) fl26_2 (fG rfl bk) ?_
         exact oN ⟨rfl, rfl, aE, aD, E, e, fS rfl rfl, hs, (fun h => aq h)⟩
       · rintro L f w ⟨bO, _⟩ hL ⟨aE, aD, E, e, rfl, hs, aq⟩
         replace bT := bT.mono ((((bq.trans bG).trans bp).trans bj).trans e)
         obtain ⟨csu181, hru181, hnu181⟩ := (id bT)
         obtain ⟨vsu181, hvu181, aE, aD, rfl, bw⟩ := NL.at rl26.len hnu181 bI.1 bI.2
         refine oLR (p := t.toNat * 3 + 2) (vs := [.slice aE (((at' x2 t).2.2).length) aD]) (v := .slice aE (((at' x2 t).2.2).length) aD) hs hru181 (fG rfl bO) ty24 ((cells_part hvu181 2 1 (by decide)).trans rfl) rfl rfl ?_
         exact oN ⟨rfl, rfl, aE, aD, E, e, (Eq.trans (fSG (i := 10) rfl rfl) (rfl)), hs, (fun _ => bw)⟩
       · rintro L f w ⟨a1, bx, _⟩ hL ⟨aE, aD, E, e, rfl, hs, aq⟩
         have bw := aq bx
         replace hs := hs.eqv (k := 0) rfl ((rL_f hL (rL_n)))
         refine ow_copyO (k := 0) (enc := e64) (X := ar) (Y := ((at' x2 t).2.2)) (lo := (at' ad t).toNat) hs rfl sl24 ty3 rfl (fG rfl a1) rfl rfl (fG rfl bx) bw (fun _ => rfl) (fun _ => rfl) di ?_
         clear hs; intro w hs
         exact oN ⟨rfl, rfl, aE, aD, E, e, fS rfl rfl, hs, (fun h => aq h)⟩
       rintro L f w hall ⟨aE, aD, dE, c6, rfl, hs, bw⟩
       rw [frL_tt _ rfl hall]
       replace hs := hs.eqv (k := 0) rfl (rL_t (hall 11 (nLe rfl)))
       replace bw := bw (hall 10 (nLe rfl))
       refine blockK_n <| sK <| cR <| oV (x_add bg rfl) rfl <| mI rfl <| oN ?_
       exact lN ⟨k, Nat.lt_succ_self k, w64 (t + 1), ar.take ((at' ad t).toNat) ++ ((at' x2 t).2.2) ++ ar.drop ((at' ad t).toNat + ((at' x2 t).2.2).length), dE, rfl, (bj.trans c6), hm, hs, bX, bW, bV, bU, bz, bE, bD, rfl⟩
     rw [if_neg b2] at hm
     refine cIf rfl (dF b2) <| cw_skip <| blockK_n <| sK <| cR <| oV (x_add bg rfl) rfl <| mI rfl <| oN ?_
     exact lN ⟨k, Nat.lt_succ_self k, w64 (t + 1), ar, bM, rfl, bj, hm, hs, bX, bW, bV, bU, bz, bE, bD, rfl⟩
   rw [if_neg b4] at hm
   refine cIf rfl (dF b4) <| cw_exit <| seqK_x <| loopK_x <| blockK_hit ?_
   obtain rfl := oJ hm
   refine jN ⟨bM, rfl, bj, hs, bW, bV, bU, bz⟩
 clear hm hs
 rintro f ds w ⟨cS, rfl, cn, hs, bR, cv, cu, ct⟩
 replace hm := dg
 refine cQ ?_
 have cC := osl_n (k := 0) hs rfl (fun _ => rfl) (by decide)
 replace hs := hs.eqv (k := 0) rfl (by rw [cC])
 replace hs := hs.eqv (k := 2) rfl (by rw [cC])
 refine cR ?_
 obtain ⟨dq, de, hm⟩ := bS hm
 refine oC (fi := []) (vs := []) (ca := []) rfl trivial en43 (f43_ok  de hs) ?_
 clear hs; rintro _ w ⟨cP, cm, hs, rfl⟩
 refine ow_alloc hs ty165 rfl ?_
 clear hs; intro aO w hs
 refine oS (k := 0) (vs := (.bool false :: .bool false :: .bool false :: .bool false :: iN 0 :: .nilFunc :: .bool true :: .bool false :: .bool false :: .bool true :: iN 2147483648 :: .func (.func 75) #[] #[] :: .bool false :: .bool true :: .bool false :: .bool true :: iN 0 :: .func (.func 76) #[] #[] :: .bool true :: .bool false :: .bool false :: .bool false :: iN 2147483648 :: .func (.func 77) #[] #[] :: .bool true :: .bool true :: .bool false :: .bool false :: iN 0 :: .func (.func 78) #[] #[] :: .bool true :: .bool true :: .bool true :: .bool false :: iN 0 :: .func (.func 79) #[] #[] :: .bool true :: .bool true :: .bool false :: .bool false :: iN 65536 :: .func (.func 80) #[] #[] :: [])) (cs' := (.bool false :: .bool false :: .bool false :: .bool false :: iN 0 :: .nilFunc :: .bool true :: .bool false :: .bool false :: .bool true :: iN 2147483648 :: .func (.func 75) #[] #[] :: .bool false :: .bool true :: .bool false :: .bool true :: iN 0 :: .func (.func 76) #[] #[] :: .bool true :: .bool false :: .bool false :: .bool false :: iN 2147483648 :: .func (.func 77) #[] #[] :: .bool true :: .bool true :: .bool false :: .bool false :: iN 0 :: .func (.func 78) #[] #[] :: .bool true :: .bool true :: .bool true :: .bool false :: iN 0 :: .func (.func 79) #[] #[] :: .bool true :: .bool true :: .bool false :: .bool false :: iN 65536 :: .func (.func 80) #[] #[] :: [])) hs rfl rfl rfl ty165 rfl rfl (nLe rfl) rfl rfl ?_
 clear hs; intro w hs
 refine oN <| sK ?_
 obtain ⟨aA, cc, df⟩ := bS hm
 replace hm := cc; clear cc
 refine cJ (fun f ds w => ∃ (ai : Option Addr) (W : Nat) (aL : List Rh) (cf : Im), ds = [] ∧ Im.le cP cf ∧ Sat cf (blk aO 165 (.bool false :: .bool false :: .bool false :: .bool false :: iN 0 :: .nilFunc :: .bool true :: .bool false :: .bool false :: .bool true :: iN 2147483648 :: .func (.func 75) #[] #[] :: .bool false :: .bool true :: .bool false :: .bool true :: iN 0 :: .func (.func 76) #[] #[] :: .bool true :: .bool false :: .bool false :: .bool false :: iN 2147483648 :: .func (.func 77) #[] #[] :: .bool true :: .bool true :: .bool false :: .bool false :: iN 0 :: .func (.func 78) #[] #[] :: .bool true :: .bool true :: .bool true :: .bool false :: iN 0 :: .func (.func 79) #[] #[] :: .bool true :: .bool true :: .bool false :: .bool false :: iN 65536 :: .func (.func 80) #[] #[] :: []) :: osl 3 1 ai aA.1.length W (aA.1.flatMap e64) :: rowsP A l y aL aA.2.2 :: blk ah 161 (cL19 aA.2.1 A l y ai aA.1.length W) :: blk b5 26 (cL0 0 0 none 0 0) :: blk b3 81 (cL16 V U aJ ad.length aH ag aI s.length aG) :: blk b1 46 (cL1 D aC x) :: F) w ∧ f 4 = pQ b3 0 ∧ f 6 = pQ b5 0 ∧ f 7 = iN 0 ∧ f 9 = pQ ah 0) ?_ ?_
 · refine cQ <| cR <| oF (b := b3) (o := 0) fl81_4 bR <| ld1 (k := 5) hs rfl rfl ty79 rfl <| oV (x_len sl79 rfl) rfl <| mI rfl <| oN <| sK <| cw_block ?_
   refine cL (S := fun k f ds w => ∃ (d : Int) (G : List Int) (ak : Int) (aB : List (List Int)), ∃ (ai : Option Addr) (W : Nat) (aL : List Rh) (bd : Im), ds = [] ∧ Im.le cP bd ∧ f19_l2 s k d G ak aB = some aA ∧ Sat bd (blk aO 165 (.bool false :: .bool false :: .bool false :: .bool false :: iN 0 :: .nilFunc :: .bool true :: .bool false :: .bool false :: .bool true :: iN 2147483648 :: .func (.func 75) #[] #[] :: .bool false :: .bool true :: .bool false :: .bool true :: iN 0 :: .func (.func 76) #[] #[] :: .bool true :: .bool false :: .bool false :: .bool false :: iN 2147483648 :: .func (.func 77) #[] #[] :: .bool true :: .bool true :: .bool false :: .bool false :: iN 0 :: .func (.func 78) #[] #[] :: .bool true :: .bool true :: .bool true :: .bool false :: iN 0 :: .func (.func 79) #[] #[] :: .bool true :: .bool true :: .bool false :: .bool false :: iN 65536 :: .func (.func 80) #[] #[] :: []) :: osl 3 1 ai G.length W (G.flatMap e64) :: rowsP A l y aL aB :: blk ah 161 (cL19 ak A l y ai G.length W) :: blk b5 26 (cL0 0 0 none 0 0) :: blk b3 81 (cL16 V U aJ ad.length aH ag aI s.length aG) :: blk b1 46 (cL1 D aC x) :: F) w ∧ f 4 = pQ b3 0 ∧ f 6 = pQ b5 0 ∧ f 7 = iN 0 ∧ f 9 = pQ ah 0 ∧ f 12 = pQ aO 0 ∧ f 82 = .slice aI s.length aG ∧ f 83 = iN (s.length : Int) ∧ f 84 = iN d) ?_ (k := FUEL) ⟨0, b7, D, b6, az, x.toNat, aw, cP, rfl, iR, hm, hs, bR, cv, cu, ct, rfl, rfl, rfl, rfl⟩
   clear hm hs
   rintro k f ds w ⟨d, G, ak, aB, ai, W, aL, bd, rfl, bi, hm, hs, bo, bn, bm, aX, aU, bf, be, a6⟩
   rcases k with _ | k
   · unfold f19_l2 at hm; cases hm
   unfold f19_l2 at hm
   refine cQ <| cR <| oV (x_lss a6 be) rfl <| oN <| sQR ?_
   by_cases b0 : d < (s.length : Int)
   · rw [if_pos b0] at hm
     refine cIt rfl (dT b0) <| cw_skip <| sQR <| cw_block <| cQ <| cR ?_
     have bH := (iS hm).1
     replace hm := (iS hm).2
     replace bB := bB.mono ((((((br.trans bq).trans bG).trans bp).trans cn).trans cm).trans bi)
     refine oI (i := d) sl79 ty168 bf a6 bH.1 bH.2 (SN168.some bB (by have := bH; omega)) ?_
     obtain ⟨csu384, hru384, hnu384⟩ := (id bB)
     obtain ⟨vsu384, hvu384, aP, aN, rfl, aV⟩ := NL.at rl168.len hnu384 bH.1 bH.2
     refine oLR (p := d.toNat * 12) (vs := (rL17 (at' s d) aP aN)) (v := .agg (rL17 (at' s d) aP aN).toArray) hs hru384 rfl ty168 ((cells_part hvu384 0 12 (by decide)).trans rfl) rfl rfl <| ow_alloc hs ty168 rfl ?_
     clear hs; intro bc w hs
     refine oS (k := 0) (vs := (rL17 (at' s d) aP aN)) (cs' := (rL17 (at' s d) aP aN)) hs rfl rfl rfl ty168 rfl rfl (nLe rfl) rfl rfl ?_
     clear hs; intro w hs
     refine oN <| sK ?_
     by_cases bv : (at' s d).1 = 1
     · rw [if_pos bv] at hm
       obtain ⟨bb, dd, hm⟩ := bS hm
       refine cD mixed rfl (fun f0 L f w => ∃ (ac : Option Addr) (aa : Nat) (N : List Rh) (E : Im), Im.le bd E ∧ f = frL [(88, 0, pQ bc 0), (89, 1, .int .u8 ((at' s d).1)), (90, 2, pQ aO 6), (91, 3, pQ aO 11), (92, 4, .func (.func 75) #[] #[]), (93, 5, pQ ah 0), (94, 6, .agg (rL17 (at' s d) aP aN).toArray), (95, 7, .tuple #[])] L f0 ∧ Sat E (blk bc 168 (rL17 (at' s d) aP aN) :: blk aO 165 (.bool false :: .bool false :: .bool false :: .bool false :: iN 0 :: .nilFunc :: .bool true :: .bool false :: .bool false :: .bool true :: iN 2147483648 :: .func (.func 75) #[] #[] :: .bool false :: .bool true :: .bool false :: .bool true :: iN 0 :: .func (.func 76) #[] #[] :: .bool true :: .bool false :: .bool false :: .bool false :: iN 2147483648 :: .func (.func 77) #[] #[] :: .bool true :: .bool true :: .bool false :: .bool false :: iN 0 :: .func (.func 78) #[] #[] :: .bool true :: .bool true :: .bool true :: .bool false :: iN 0 :: .func (.func 79) #[] #[] :: .bool true :: .bool true :: .bool false :: .bool false :: iN 65536 :: .func (.func 80) #[] #[] :: []) :: rL [(7, osl 3 1 ac bb.2.2.length aa (bb.2.2.flatMap e64))] (osl 3 1 ai G.length W (G.flatMap e64)) L :: rL [(7, rowsP A l y N bb.2.1)] (rowsP A l y aL aB) L :: rL [(7, blk ah 161 (cL19 bb.1 A l y ac bb.2.2.length aa))] (blk ah 161 (cL19 ak A l y ai G.length W)) L :: blk b5 26 (cL0 0 0 none 0 0) :: blk b3 81 (cL16 V U aJ ad.length aH ag aI s.length aG) :: blk b1 46 (cL1 D aC x) :: F) w) ⟨none, 0, [], bd, iR, (frL_ff _).symm, hs.drew⟩ ⟨?_, ?_, ?_, ?_, ?_, ?_, ?_, ?_, trivial⟩ ?_
       all_goals clear hs
       · rintro L f w _ hL ⟨ac, aa, N, E, e, rfl, hs⟩
         refine oF (b := bc) (o := 0) fl168_0 rfl ?_
         exact oN ⟨rfl, rfl, ac, aa, N, E, e, fS rfl rfl, hs⟩
       · rintro L f w ⟨a8, _⟩ hL ⟨ac, aa, N, E, e, rfl, hs⟩
         refine ld1 (k := 0) hs rfl (fG rfl a8) ty5 rfl ?_
         exact oN ⟨rfl, rfl, ac, aa, N, E, e, fS rfl rfl, hs⟩
       · rintro L f w ⟨a5, _⟩ hL ⟨ac, aa, N, E, e, rfl, hs⟩
         refine ow_indexAq (b := aO) (o := 0) (q := 1) (p := 6) ar165 ty164 aU (fG rfl a5) bv (by decide) rfl ?_
         exact oN ⟨rfl, rfl, ac, aa, N, E, e, fS rfl rfl, hs⟩
       · rintro L f w ⟨aZ, _⟩ hL ⟨ac, aa, N, E, e, rfl, hs⟩
         refine oF (b := aO) (o := 6) fl164_5 (fG rfl aZ) ?_
         exact oN ⟨rfl, rfl, ac, aa, N, E, e, fS rfl rfl, hs⟩
       · rintro L f w ⟨aY, _⟩ hL ⟨ac, aa, N, E, e, rfl, hs⟩
         refine ld1 (k := 1) hs rfl (fG rfl aY) ty162 rfl ?_
         exact oN ⟨rfl, rfl, ac, aa, N, E, e, fS rfl rfl, hs⟩
       · rintro L f w _ hL ⟨ac, aa, N, E, e, rfl, hs⟩
         refine mP aX ?_
         exact oN ⟨rfl, rfl, ac, aa, N, E, e, fS rfl rfl, hs⟩
       · rintro L f w _ hL ⟨ac, aa, N, E, e, rfl, hs⟩
         refine oL (k := 0) (vs := (rL17 (at' s d) aP aN)) (v := .agg (rL17 (at' s d) aP aN).toArray) hs rfl rfl ty168 rfl rfl rfl ?_
         exact oN ⟨rfl, rfl, ac, aa, N, E, e, fS rfl rfl, hs⟩
       · rintro L f w ⟨aW, a1, a0, _⟩ hL ⟨ac, aa, N, E, e, rfl, hs⟩
         replace hs := hs.eqv (k := 2) rfl ((rL_f hL (rL_n)))
         replace hs := hs.eqv (k := 3) rfl ((rL_f hL (rL_n)))
         replace hs := hs.eqv (k := 4) rfl ((rL_f hL (rL_n)))
         replace hs := hs.front (k := 2) rfl
         replace hs := hs.front (k := 3) rfl
         replace hs := hs.front (k := 4) rfl
         replace aV := aV.mono e
         refine oC (fi := []) (vs := [pQ ah 0, .agg (rL17 (at' s d) aP aN).toArray]) (ca := []) (fG rfl aW) ⟨(fG rfl a1), (fG rfl a0), trivial⟩ en75 (f75_ok _ _ _ _ _ _ _ _ _ _ _ _ _ _ _ dd hs aV) ?_
         clear hs; rintro _ w ⟨dy, N, ac, aa, c5, hs, rfl⟩
         replace hs := hs.front (k := 7) rfl
         replace hs := hs.front (k := 7) rfl
         replace hs := hs.front (k := 7) rfl
         replace hs := hs.front (k := 3) rfl
         replace hs := hs.front (k := 4) rfl
         replace hs := hs.front (k := 5) rfl
         replace hs := hs.front (k := 7) rfl
         replace hs := hs.front (k := 7) rfl
         exact oN ⟨rfl, rfl, ac, aa, N, dy, (e.trans c5), (Eq.trans (fSG (i := 7) rfl rfl) (rfl)), hs⟩
       rintro L f w hall ⟨ac, aa, N, dD, c4, rfl, hs⟩
       rw [frL_tt _ rfl hall]
       replace hs := hs.eqv (k := 2) rfl (rL_t (hall 7 (nLe rfl)))
       replace hs := hs.eqv (k := 3) rfl (rL_t (hall 7 (nLe rfl)))
       replace hs := hs.eqv (k := 4) rfl (rL_t (hall 7 (nLe rfl)))
       refine blockK_n <| sK <| cR <| oV (x_add a6 rfl) rfl <| mI rfl <| oN ?_
       replace hs := hs.erase 0
       exact lN ⟨k, Nat.lt_succ_self k, w64 (d + 1), bb.2.2, bb.1, bb.2.1, ac, aa, N, dD, rfl, (bi.trans c4), hm, hs, bo, bn, bm, aX, aU, bf, be, rfl⟩
     rw [if_neg bv] at hm
     by_cases bu : (at' s d).1 = 2
     · rw [if_pos bu] at hm
       obtain ⟨a4, dc, hm⟩ := bS hm
       refine cD mixed rfl (fun f0 L f w => ∃ (T : Option Addr) (Q : Nat) (M : List Rh) (E : Im), Im.le bd E ∧ f = frL [(88, 0, pQ bc 0), (89, 1, .int .u8 ((at' s d).1)), (90, 2, pQ aO 12), (91, 3, pQ aO 17), (92, 4, .func (.func 76) #[] #[]), (93, 5, pQ ah 0), (94, 6, .agg (rL17 (at' s d) aP aN).toArray), (95, 7, .tuple #[])] L f0 ∧ Sat E (blk bc 168 (rL17 (at' s d) aP aN) :: blk aO 165 (.bool false :: .bool false :: .bool false :: .bool false :: iN 0 :: .nilFunc :: .bool true :: .bool false :: .bool false :: .bool true :: iN 2147483648 :: .func (.func 75) #[] #[] :: .bool false :: .bool true :: .bool false :: .bool true :: iN 0 :: .func (.func 76) #[] #[] :: .bool true :: .bool false :: .bool false :: .bool false :: iN 2147483648 :: .func (.func 77) #[] #[] :: .bool true :: .bool true :: .bool false :: .bool false :: iN 0 :: .func (.func 78) #[] #[] :: .bool true :: .bool true :: .bool true :: .bool false :: iN 0 :: .func (.func 79) #[] #[] :: .bool true :: .bool true :: .bool false :: .bool false :: iN 65536 :: .func (.func 80) #[] #[] :: []) :: rL [(7, osl 3 1 T a4.2.2.length Q (a4.2.2.flatMap e64))] (osl 3 1 ai G.length W (G.flatMap e64)) L :: rL [(7, rowsP A l y M a4.2.1)] (rowsP A l y aL aB) L :: rL [(7, blk ah 161 (cL19 a4.1 A l y T a4.2.2.length Q))] (blk ah 161 (cL19 ak A l y ai G.length W)) L :: blk b5 26 (cL0 0 0 none 0 0) :: blk b3 81 (cL16 V U aJ ad.length aH ag aI s.length aG) :: blk b1 46 (cL1 D aC x) :: F) w ∧ (L 3 = true → L 2 = true) ∧ (L 4 = true → L 2 = true) ∧ (L 7 = true → L 2 = true)) ⟨none, 0, [], bd, iR, (frL_ff _).symm, hs.drew, (fun h => by cases h), (fun h => by cases h), (fun h => by cases h)⟩ ⟨?_, ?_, ?_, ?_, ?_, ?_, ?_, ?_, trivial⟩ ?_
       all_goals clear hs
       · rintro L f w _ hL ⟨T, Q, M, E, e, rfl, hs, ap, ao, an⟩
         refine oF (b := bc) (o := 0) fl168_0 rfl ?_
         exact oN ⟨rfl, rfl, T, Q, M, E, e, fS rfl rfl, hs, ap, ao, an⟩
       · rintro L f w ⟨a8, _⟩ hL ⟨T, Q, M, E, e, rfl, hs, ap, ao, an⟩
         refine ld1 (k := 0) hs rfl (fG rfl a8) ty5 rfl ?_
         exact oN ⟨rfl, rfl, T, Q, M, E, e, fS rfl rfl, hs, ap, ao, an⟩
       · rintro L f w ⟨a5, _⟩ hL ⟨T, Q, M, E, e, rfl, hs, ap, ao, an⟩
         replace hs := hs.eqv (k := 2) rfl ((rL_f (show L 7 = false from pF an hL) (rL_n)))
         refine ow_indexAq (b := aO) (o := 0) (q := 2) (p := 12) ar165 ty164 aU (fG rfl a5) bu (by decide) rfl ?_
         replace hs := hs.eqv (k := 2) rfl (Eq.symm (a := rL [(7, osl 3 1 T a4.2.2.length Q (a4.2.2.flatMap e64))] (osl 3 1 ai G.length W (G.flatMap e64)) (setL L 2)) (((rL_f (L := setL L 2) (show L 7 = false from pF an hL) (rL_n)))))
         exact oN ⟨rfl, rfl, T, Q, M, E, e, fS rfl rfl, hs, (fun _ => rfl), (fun _ => rfl), (fun _ => rfl)⟩
       · rintro L f w ⟨aZ, _⟩ hL ⟨T, Q, M, E, e, rfl, hs, ap, ao, an⟩
         refine oF (b := aO) (o := 12) fl164_5 (fG rfl aZ) ?_
         exact oN ⟨rfl, rfl, T, Q, M, E, e, fS rfl rfl, hs, (fun _ => aZ), ao, an⟩
       · rintro L f w ⟨aY, _⟩ hL ⟨T, Q, M, E, e, rfl, hs, ap, ao, an⟩
         refine ld1 (k := 1) hs rfl (fG rfl aY) ty162 rfl ?_
         exact oN ⟨rfl, rfl, T, Q, M, E, e, fS rfl rfl, hs, ap, (fun _ => (ap aY)), an⟩
       · rintro L f w _ hL ⟨T, Q, M, E, e, rfl, hs, ap, ao, an⟩
         refine mP aX ?_
         exact oN ⟨rfl, rfl, T, Q, M, E, e, fS rfl rfl, hs, ap, ao, an⟩
       · rintro L f w _ hL ⟨T, Q, M, E, e, rfl, hs, ap, ao, an⟩
         refine oL (k := 0) (vs := (rL17 (at' s d) aP aN)) (v := .agg (rL17 (at' s d) aP aN).toArray) hs rfl rfl ty168 rfl rfl rfl ?_
         exact oN ⟨rfl, rfl, T, Q, M, E, e, fS rfl rfl, hs, ap, ao, an⟩
       · rintro L f w ⟨aW, a1, a0, _⟩ hL ⟨T, Q, M, E, e, rfl, hs, ap, ao, an⟩
         replace hs := hs.eqv (k := 2) rfl ((rL_f hL (rL_n)))
         replace hs := hs.eqv (k := 3) rfl ((rL_f hL (rL_n)))
         replace hs := hs.eqv (k := 4) rfl ((rL_f hL (rL_n)))
         replace hs := hs.front (k := 2) rfl
         replace hs := hs.front (k := 3) rfl
         replace hs := hs.front (k := 4) rfl
         replace aV := aV.mono e
         refine oC (fi := []) (vs := [pQ ah 0, .agg (rL17 (at' s d) aP aN).toArray]) (ca := []) (fG rfl aW) ⟨(fG rfl a1), (fG rfl a0), trivial⟩ en76 (f76_ok _ _ _ _ _ _ _ _ _ _ _ _ _ _ _ dc hs aV) ?_
         clear hs; rintro _ w ⟨dx, M, T, Q, c3, hs, rfl⟩
         replace hs := hs.front (k := 7) rfl
         replace hs := hs.front (k := 7) rfl
         replace hs := hs.front (k := 7) rfl
         replace hs := hs.front (k := 3) rfl
         replace hs := hs.front (k := 4) rfl
         replace hs := hs.front (k := 5) rfl
         replace hs := hs.front (k := 7) rfl
         replace hs := hs.front (k := 7) rfl
         exact oN ⟨rfl, rfl, T, Q, M, dx, (e.trans c3), (Eq.trans (fSG (i := 7) rfl rfl) (rfl)), hs, ap, ao, (fun _ => (ao aW))⟩
       rintro L f w hall ⟨T, Q, M, dC, c1, rfl, hs, _, _, _⟩
       rw [frL_tt _ rfl hall]
       replace hs := hs.eqv (k := 2) rfl (rL_t (hall 7 (nLe rfl)))
       replace hs := hs.eqv (k := 3) rfl (rL_t (hall 7 (nLe rfl)))
       replace hs := hs.eqv (k := 4) rfl (rL_t (hall 7 (nLe rfl)))
       refine blockK_n <| sK <| cR <| oV (x_add a6 rfl) rfl <| mI rfl <| oN ?_
       replace hs := hs.erase 0
       exact lN ⟨k, Nat.lt_succ_self k, w64 (d + 1), a4.2.2, a4.1, a4.2.1, T, Q, M, dC, rfl, (bi.trans c1), hm, hs, bo, bn, bm, aX, aU, bf, be, rfl⟩
     rw [if_neg bu] at hm
     by_cases bt : (at' s d).1 = 4
     · rw [if_pos bt] at hm
       obtain ⟨a3, db, hm⟩ := bS hm
       refine cD mixed rfl (fun f0 L f w => ∃ (R : Option Addr) (O : Nat) (K : List Rh) (E : Im), Im.le bd E ∧ f = frL [(88, 0, pQ bc 0), (89, 1, .int .u8 ((at' s d).1)), (90, 2, pQ aO 24), (91, 3, pQ aO 29), (92, 4, .func (.func 78) #[] #[]), (93, 5, pQ ah 0), (94, 6, .agg (rL17 (at' s d) aP aN).toArray), (95, 7, .tuple #[])] L f0 ∧ Sat E (blk bc 168 (rL17 (at' s d) aP aN) :: blk aO 165 (.bool false :: .bool false :: .bool false :: .bool false :: iN 0 :: .nilFunc :: .bool true :: .bool false :: .bool false :: .bool true :: iN 2147483648 :: .func (.func 75) #[] #[] :: .bool false :: .bool true :: .bool false :: .bool true :: iN 0 :: .func (.func 76) #[] #[] :: .bool true :: .bool false :: .bool false :: .bool false :: iN 2147483648 :: .func (.func 77) #[] #[] :: .bool true :: .bool true :: .bool false :: .bool false :: iN 0 :: .func (.func 78) #[] #[] :: .bool true :: .bool true :: .bool true :: .bool false :: iN 0 :: .func (.func 79) #[] #[] :: .bool true :: .bool true :: .bool false :: .bool false :: iN 65536 :: .func (.func 80) #[] #[] :: []) :: rL [(7, osl 3 1 R a3.2.2.length O (a3.2.2.flatMap e64))] (osl 3 1 ai G.length W (G.flatMap e64)) L :: rL [(7, rowsP A l y K a3.2.1)] (rowsP A l y aL aB) L :: rL [(7, blk ah 161 (cL19 a3.1 A l y R a3.2.2.length O))] (blk ah 161 (cL19 ak A l y ai G.length W)) L :: blk b5 26 (cL0 0 0 none 0 0) :: blk b3 81 (cL16 V U aJ ad.length aH ag aI s.length aG) :: blk b1 46 (cL1 D aC x) :: F) w ∧ (L 3 = true → L 2 = true) ∧ (L 4 = true → L 2 = true) ∧ (L 7 = true → L 2 = true)) ⟨none, 0, [], bd, iR, (frL_ff _).symm, hs.drew, (fun h => by cases h), (fun h => by cases h), (fun h => by cases h)⟩ ⟨?_, ?_, ?_, ?_, ?_, ?_, ?_, ?_, trivial⟩ ?_
       all_goals clear hs
       · rintro L f w _ hL ⟨R, O, K, E, e, rfl, hs, ap, ao, an⟩
         refine oF (b := bc) (o := 0) fl168_0 rfl ?_
         exact oN ⟨rfl, rfl, R, O, K, E, e, fS rfl rfl, hs, ap, ao, an⟩
       · rintro L f w ⟨a8, _⟩ hL ⟨R, O, K, E, e, rfl, hs, ap, ao, an⟩
         refine ld1 (k := 0) hs rfl (fG rfl a8) ty5 rfl ?_
         exact oN ⟨rfl, rfl, R, O, K, E, e, fS rfl rfl, hs, ap, ao, an⟩
       · rintro L f w ⟨a5, _⟩ hL ⟨R, O, K, E, e, rfl, hs, ap, ao, an⟩
         replace hs := hs.eqv (k := 4) rfl ((rL_f (show L 7 = false from pF an hL) (rL_n)))
         refine ow_indexAq (b := aO) (o := 0) (q := 4) (p := 24) ar165 ty164 aU (fG rfl a5) bt (by decide) rfl ?_
         replace hs := hs.eqv (k := 4) rfl (Eq.symm (a := rL [(7, blk ah 161 (cL19 a3.1 A l y R a3.2.2.length O))] (blk ah 161 (cL19 ak A l y ai G.length W)) (setL L 2)) (((rL_f (L := setL L 2) (show L 7 = false from pF an hL) (rL_n)))))
         exact oN ⟨rfl, rfl, R, O, K, E, e, fS rfl rfl, hs, (fun _ => rfl), (fun _ => rfl), (fun _ => rfl)⟩
       · rintro L f w ⟨aZ, _⟩ hL ⟨R, O, K, E, e, rfl, hs, ap, ao, an⟩
         refine oF (b := aO) (o := 24) fl164_5 (fG rfl aZ) ?_
         exact oN ⟨rfl, rfl, R, O, K, E, e, fS rfl rfl, hs, (fun _ => aZ), ao, an⟩
       · rintro L f w ⟨aY, _⟩ hL ⟨R, O, K, E, e, rfl, hs, ap, ao, an⟩
         refine ld1 (k := 1) hs rfl (fG rfl aY) ty162 rfl ?_
         exact oN ⟨rfl, rfl, R, O, K, E, e, fS rfl rfl, hs, ap, (fun _ => (ap aY)), an⟩
       · rintro L f w _ hL ⟨R, O, K, E, e, rfl, hs, ap, ao, an⟩
         refine mP aX ?_
         exact oN ⟨rfl, rfl, R, O, K, E, e, fS rfl rfl, hs, ap, ao, an⟩
       · rintro L f w _ hL ⟨R, O, K, E, e, rfl, hs, ap, ao, an⟩
         refine oL (k := 0) (vs := (rL17 (at' s d) aP aN)) (v := .agg (rL17 (at' s d) aP aN).toArray) hs rfl rfl ty168 rfl rfl rfl ?_
         exact oN ⟨rfl, rfl, R, O, K, E, e, fS rfl rfl, hs, ap, ao, an⟩
       · rintro L f w ⟨aW, a1, a0, _⟩ hL ⟨R, O, K, E, e, rfl, hs, ap, ao, an⟩
         replace hs := hs.eqv (k := 2) rfl ((rL_f hL (rL_n)))
         replace hs := hs.eqv (k := 3) rfl ((rL_f hL (rL_n)))
         replace hs := hs.eqv (k := 4) rfl ((rL_f hL (rL_n)))
         replace hs := hs.front (k := 2) rfl
         replace hs := hs.front (k := 3) rfl
         replace hs := hs.front (k := 4) rfl
         replace aV := aV.mono e
         refine oC (fi := []) (vs := [pQ ah 0, .agg (rL17 (at' s d) aP aN).toArray]) (ca := []) (fG rfl aW) ⟨(fG rfl a1), (fG rfl a0), trivial⟩ en78 (f78_ok _ _ _ _ _ _ _ _ _ _ _ _ _ _ _ db hs aV) ?_
         clear hs; rintro _ w ⟨dw, K, R, O, c0, hs, rfl⟩
         replace hs := hs.front (k := 7) rfl
         replace hs := hs.front (k := 7) rfl
         replace hs := hs.front (k := 7) rfl
         replace hs := hs.front (k := 3) rfl
         replace hs := hs.front (k := 4) rfl
         replace hs := hs.front (k := 5) rfl
         replace hs := hs.front (k := 7) rfl
         replace hs := hs.front (k := 7) rfl
         exact oN ⟨rfl, rfl, R, O, K, dw, (e.trans c0), (Eq.trans (fSG (i := 7) rfl rfl) (rfl)), hs, ap, ao, (fun _ => (ao aW))⟩
       rintro L f w hall ⟨R, O, K, dB, cZ, rfl, hs, _, _, _⟩
       rw [frL_tt _ rfl hall]
       replace hs := hs.eqv (k := 2) rfl (rL_t (hall 7 (nLe rfl)))
       replace hs := hs.eqv (k := 3) rfl (rL_t (hall 7 (nLe rfl)))
       replace hs := hs.eqv (k := 4) rfl (rL_t (hall 7 (nLe rfl)))
       refine blockK_n <| sK <| cR <| oV (x_add a6 rfl) rfl <| mI rfl <| oN ?_
       replace hs := hs.erase 0
       exact lN ⟨k, Nat.lt_succ_self k, w64 (d + 1), a3.2.2, a3.1, a3.2.1, R, O, K, dB, rfl, (bi.trans cZ), hm, hs, bo, bn, bm, aX, aU, bf, be, rfl⟩
     rw [if_neg bt] at hm
     by_cases bs : (at' s d).1 = 5
     · rw [if_pos bs] at hm
       obtain ⟨ba, da, hm⟩ := bS hm
       refine cD mixed rfl (fun f0 L f w => ∃ (ab : Option Addr) (Z : Nat) (H : List Rh) (E : Im), Im.le bd E ∧ f = frL [(88, 0, pQ bc 0), (89, 1, .int .u8 ((at' s d).1)), (90, 2, pQ aO 30), (91, 3, pQ aO 35), (92, 4, .func (.func 79) #[] #[]), (93, 5, pQ ah 0), (94, 6, .agg (rL17 (at' s d) aP aN).toArray), (95, 7, .tuple #[])] L f0 ∧ Sat E (blk bc 168 (rL17 (at' s d) aP aN) :: blk aO 165 (.bool false :: .bool false :: .bool false :: .bool false :: iN 0 :: .nilFunc :: .bool true :: .bool false :: .bool false :: .bool true :: iN 2147483648 :: .func (.func 75) #[] #[] :: .bool false :: .bool true :: .bool false :: .bool true :: iN 0 :: .func (.func 76) #[] #[] :: .bool true :: .bool false :: .bool false :: .bool false :: iN 2147483648 :: .func (.func 77) #[] #[] :: .bool true :: .bool true :: .bool false :: .bool false :: iN 0 :: .func (.func 78) #[] #[] :: .bool true :: .bool true :: .bool true :: .bool false :: iN 0 :: .func (.func 79) #[] #[] :: .bool true :: .bool true :: .bool false :: .bool false :: iN 65536 :: .func (.func 80) #[] #[] :: []) :: rL [(7, osl 3 1 ab ba.2.2.length Z (ba.2.2.flatMap e64))] (osl 3 1 ai G.length W (G.flatMap e64)) L :: rL [(7, rowsP A l y H ba.2.1)] (rowsP A l y aL aB) L :: rL [(7, blk ah 161 (cL19 ba.1 A l y ab ba.2.2.length Z))] (blk ah 161 (cL19 ak A l y ai G.length W)) L :: blk b5 26 (cL0 0 0 none 0 0) :: blk b3 81 (cL16 V U aJ ad.length aH ag aI s.length aG) :: blk b1 46 (cL1 D aC x) :: F) w) ⟨none, 0, [], bd, iR, (frL_ff _).symm, hs.drew⟩ ⟨?_, ?_, ?_, ?_, ?_, ?_, ?_, ?_, trivial⟩ ?_
       all_goals clear hs
       · rintro L f w _ hL ⟨ab, Z, H, E, e, rfl, hs⟩
         refine oF (b := bc) (o := 0) fl168_0 rfl ?_
         exact oN ⟨rfl, rfl, ab, Z, H, E, e, fS rfl rfl, hs⟩
       · rintro L f w ⟨a8, _⟩ hL ⟨ab, Z, H, E, e, rfl, hs⟩
         refine ld1 (k := 0) hs rfl (fG rfl a8) ty5 rfl ?_
         exact oN ⟨rfl, rfl, ab, Z, H, E, e, fS rfl rfl, hs⟩
       · rintro L f w ⟨a5, _⟩ hL ⟨ab, Z, H, E, e, rfl, hs⟩
         refine ow_indexAq (b := aO) (o := 0) (q := 5) (p := 30) ar165 ty164 aU (fG rfl a5) bs (by decide) rfl ?_
         exact oN ⟨rfl, rfl, ab, Z, H, E, e, fS rfl rfl, hs⟩
       · rintro L f w ⟨aZ, _⟩ hL ⟨ab, Z, H, E, e, rfl, hs⟩
         refine oF (b := aO) (o := 30) fl164_5 (fG rfl aZ) ?_
         exact oN ⟨rfl, rfl, ab, Z, H, E, e, fS rfl rfl, hs⟩
       · rintro L f w ⟨aY, _⟩ hL ⟨ab, Z, H, E, e, rfl, hs⟩
         refine ld1 (k := 1) hs rfl (fG rfl aY) ty162 rfl ?_
         exact oN ⟨rfl, rfl, ab, Z, H, E, e, fS rfl rfl, hs⟩
       · rintro L f w _ hL ⟨ab, Z, H, E, e, rfl, hs⟩
         refine mP aX ?_
         exact oN ⟨rfl, rfl, ab, Z, H, E, e, fS rfl rfl, hs⟩
       · rintro L f w _ hL ⟨ab, Z, H, E, e, rfl, hs⟩
         refine oL (k := 0) (vs := (rL17 (at' s d) aP aN)) (v := .agg (rL17 (at' s d) aP aN).toArray) hs rfl rfl ty168 rfl rfl rfl ?_
         exact oN ⟨rfl, rfl, ab, Z, H, E, e, fS rfl rfl, hs⟩
       · rintro L f w ⟨aW, a1, a0, _⟩ hL ⟨ab, Z, H, E, e, rfl, hs⟩
         replace hs := hs.eqv (k := 2) rfl ((rL_f hL (rL_n)))
         replace hs := hs.eqv (k := 3) rfl ((rL_f hL (rL_n)))
         replace hs := hs.eqv (k := 4) rfl ((rL_f hL (rL_n)))
         replace hs := hs.front (k := 2) rfl
         replace hs := hs.front (k := 3) rfl
         replace hs := hs.front (k := 4) rfl
         replace aV := aV.mono e
         refine oC (fi := []) (vs := [pQ ah 0, .agg (rL17 (at' s d) aP aN).toArray]) (ca := []) (fG rfl aW) ⟨(fG rfl a1), (fG rfl a0), trivial⟩ en79 (f79_ok _ _ _ _ _ _ _ _ _ _ _ _ _ _ _ da hs aV) ?_
         clear hs; rintro _ w ⟨dv, H, ab, Z, cY, hs, rfl⟩
         replace hs := hs.front (k := 7) rfl
         replace hs := hs.front (k := 7) rfl
         replace hs := hs.front (k := 7) rfl
         replace hs := hs.front (k := 3) rfl
         replace hs := hs.front (k := 4) rfl
         replace hs := hs.front (k := 5) rfl
         replace hs := hs.front (k := 7) rfl
         replace hs := hs.front (k := 7) rfl
         exact oN ⟨rfl, rfl, ab, Z, H, dv, (e.trans cY), (Eq.trans (fSG (i := 7) rfl rfl) (rfl)), hs⟩
       rintro L f w hall ⟨ab, Z, H, dA, cX, rfl, hs⟩
       rw [frL_tt _ rfl hall]
       replace hs := hs.eqv (k := 2) rfl (rL_t (hall 7 (nLe rfl)))
       replace hs := hs.eqv (k := 3) rfl (rL_t (hall 7 (nLe rfl)))
       replace hs := hs.eqv (k := 4) rfl (rL_t (hall 7 (nLe rfl)))
       refine blockK_n <| sK <| cR <| oV (x_add a6 rfl) rfl <| mI rfl <| oN ?_
       replace hs := hs.erase 0
       exact lN ⟨k, Nat.lt_succ_self k, w64 (d + 1), ba.2.2, ba.1, ba.2.1, ab, Z, H, dA, rfl, (bi.trans cX), hm, hs, bo, bn, bm, aX, aU, bf, be, rfl⟩
     rw [if_neg bs] at hm
     cases hm
   rw [if_neg b0] at hm
   refine cIf rfl (dF b0) <| cw_exit <| seqK_x <| loopK_x <| blockK_hit ?_
   obtain rfl := oJ hm
   refine jN ⟨ai, W, aL, bd, rfl, bi, hs, bo, bn, bm, aX⟩
 clear hm hs
 rintro f ds w ⟨ai, W, aL, cf, rfl, cW, hs, a7, bQ, dn, cr⟩
 replace hm := df
 refine cQ ?_
 have bZ := (iS hm).1
 replace hm := (iS hm).2
 have bY := (iS hm).1
 replace hm := (iS hm).2
 have dh := (iS hm).1
 replace hm := (iS hm).2
 replace hs := hs.pushEmp
 refine cD mixed rfl (fun f0 L f w => ∃ (af : Option Addr) (ae : Nat) (E : Im), Im.le cf E ∧ f = frL [(97, 0, pQ b3 0), (98, 1, iN V), (99, 2, pQ b3 1), (100, 3, iN U), (101, 4, pQ ah 0), (102, 5, pQ ah 0), (103, 6, pQ ah 2), (104, 7, .slice ai aA.1.length W), (105, 8, pQ b3 3), (106, 9, iN ag), (107, 10, .slice (so ai W ag.toNat 1) (aA.1.length - ag.toNat) (W - ag.toNat)), (108, 11, pQ b3 0), (109, 12, iN V), (110, 13, pQ b3 1), (111, 14, iN U), (112, 15, iN (w64 (V * U))), (113, 16, .slice (so ai W ag.toNat 1) (w64 (V * U)).toNat (W - ag.toNat)), (114, 17, .slice af (((aA.1.drop ag.toNat).take (w64 (V * U)).toNat).length) ae), (115, 18, .agg (cL0 V U af (((aA.1.drop ag.toNat).take (w64 (V * U)).toNat).length) ae).toArray), (7, 20, iN 0)] L f0 ∧ Sat E (rL [(17, osl 3 1 af ((aA.1.drop ag.toNat).take (w64 (V * U)).toNat).length ae (((aA.1.drop ag.toNat).take (w64 (V * U)).toNat).flatMap e64))] emp L :: blk aO 165 (.bool false :: .bool false :: .bool false :: .bool false :: iN 0 :: .nilFunc :: .bool true :: .bool false :: .bool false :: .bool true :: iN 2147483648 :: .func (.func 75) #[] #[] :: .bool false :: .bool true :: .bool false :: .bool true :: iN 0 :: .func (.func 76) #[] #[] :: .bool true :: .bool false :: .bool false :: .bool false :: iN 2147483648 :: .func (.func 77) #[] #[] :: .bool true :: .bool true :: .bool false :: .bool false :: iN 0 :: .func (.func 78) #[] #[] :: .bool true :: .bool true :: .bool true :: .bool false :: iN 0 :: .func (.func 79) #[] #[] :: .bool true :: .bool true :: .bool false :: .bool false :: iN 65536 :: .func (.func 80) #[] #[] :: []) :: osl 3 1 ai aA.1.length W (aA.1.flatMap e64) :: rowsP A l y aL aA.2.2 :: blk ah 161 (cL19 aA.2.1 A l y ai aA.1.length W) :: rL [(19, blk b5 26 (cL0 V U af (((aA.1.drop ag.toNat).take (w64 (V * U)).toNat).length) ae))] (blk b5 26 (cL0 0 0 none 0 0)) L :: blk b3 81 (cL16 V U aJ ad.length aH ag aI s.length aG) :: blk b1 46 (cL1 D aC x) :: F) w ∧ (L 19 = true → L 17 = true) ∧ (L 18 = true → L 17 = true)) ⟨none, 0, cf, iR, (frL_ff _).symm, hs.drew, (fun h => by cases h), (fun h => by cases h)⟩ ⟨?_, ?_, ?_, ?_, ?_, ?_, ?_, ?_, ?_, ?_, ?_, ?_, ?_, ?_, ?_, ?_, ?_, ?_, ?_, ?_, ?_, trivial⟩ ?_
 all_goals clear hs
 · rintro L f w _ hL ⟨af, ae, E, e, rfl, hs, B, C⟩
   refine oF (b := b3) (o := 0) fl81_0 a7 ?_
   exact oN ⟨rfl, rfl, af, ae, E, e, fS rfl rfl, hs, B, C⟩
 · rintro L f w ⟨a8, _⟩ hL ⟨af, ae, E, e, rfl, hs, B, C⟩
   refine ld1 (k := 6) hs rfl (fG rfl a8) ty3 rfl ?_
   exact oN ⟨rfl, rfl, af, ae, E, e, fS rfl rfl, hs, B, C⟩
 · rintro L f w _ hL ⟨af, ae, E, e, rfl, hs, B, C⟩
   refine oF (b := b3) (o := 0) fl81_1 a7 ?_
   exact oN ⟨rfl, rfl, af, ae, E, e, fS rfl rfl, hs, B, C⟩
 · rintro L f w ⟨aZ, _⟩ hL ⟨af, ae, E, e, rfl, hs, B, C⟩
   refine ld1 (k := 6) hs rfl (fG rfl aZ) ty3 rfl ?_
   exact oN ⟨rfl, rfl, af, ae, E, e, fS rfl rfl, hs, B, C⟩
 · rintro L f w _ hL ⟨af, ae, E, e, rfl, hs, B, C⟩
   refine mP cr ?_
   exact oN ⟨rfl, rfl, af, ae, E, e, fS rfl rfl, hs, B, C⟩
 · rintro L f w ⟨aW, _⟩ hL ⟨af, ae, E, e, rfl, hs, B, C⟩
   refine oV (x_nilCheck (fG rfl aW)) rfl ?_
   exact oN ⟨rfl, rfl, af, ae, E, e, fS rfl rfl, hs, B, C⟩
 · rintro L f w ⟨a1, _⟩ hL ⟨af, ae, E, e, rfl, hs, B, C⟩
   refine oF (b := ah) (o := 0) fl161_2 (fG rfl a1) ?_
   exact oN ⟨rfl, rfl, af, ae, E, e, fS rfl rfl, hs, B, C⟩
 · rintro L f w ⟨a0, _⟩ hL ⟨af, ae, E, e, rfl, hs, B, C⟩
   refine ld1 (k := 4) hs rfl (fG rfl a0) ty24 rfl ?_
   exact oN ⟨rfl, rfl, af, ae, E, e, fS rfl rfl, hs, B, C⟩
 · rintro L f w _ hL ⟨af, ae, E, e, rfl, hs, B, C⟩
   refine oF (b := b3) (o := 0) fl81_3 a7 ?_
   exact oN ⟨rfl, rfl, af, ae, E, e, fS rfl rfl, hs, B, C⟩
 · rintro L f w ⟨bk, _⟩ hL ⟨af, ae, E, e, rfl, hs, B, C⟩
   refine ld1 (k := 6) hs rfl (fG rfl bk) ty3 rfl ?_
   exact oN ⟨rfl, rfl, af, ae, E, e, fS rfl rfl, hs, B, C⟩
 · rintro L f w ⟨bK, bO, _⟩ hL ⟨af, ae, E, e, rfl, hs, B, C⟩
   refine oV (x_slice_lo (i := ag) sl24 ty3 (fG rfl bK) (fG rfl bO) bZ.1 bZ.2) rfl ?_
   exact oN ⟨rfl, rfl, af, ae, E, e, fS rfl rfl, hs, B, C⟩
 · rintro L f w _ hL ⟨af, ae, E, e, rfl, hs, B, C⟩
   refine oF (b := b3) (o := 0) fl81_0 a7 ?_
   exact oN ⟨rfl, rfl, af, ae, E, e, fS rfl rfl, hs, B, C⟩
 · rintro L f w ⟨ce, _⟩ hL ⟨af, ae, E, e, rfl, hs, B, C⟩
   refine ld1 (k := 6) hs rfl (fG rfl ce) ty3 rfl ?_
   exact oN ⟨rfl, rfl, af, ae, E, e, fS rfl rfl, hs, B, C⟩
 · rintro L f w _ hL ⟨af, ae, E, e, rfl, hs, B, C⟩
   refine oF (b := b3) (o := 0) fl81_1 a7 ?_
   exact oN ⟨rfl, rfl, af, ae, E, e, fS rfl rfl, hs, B, C⟩
 · rintro L f w ⟨cN, _⟩ hL ⟨af, ae, E, e, rfl, hs, B, C⟩
   refine ld1 (k := 6) hs rfl (fG rfl cN) ty3 rfl ?_
   exact oN ⟨rfl, rfl, af, ae, E, e, fS rfl rfl, hs, B, C⟩
 · rintro L f w ⟨cO, cM, _⟩ hL ⟨af, ae, E, e, rfl, hs, B, C⟩
   refine oV (x_mul (fG rfl cO) (fG rfl cM)) rfl ?_
   exact oN ⟨rfl, rfl, af, ae, E, e, fS rfl rfl, hs, B, C⟩
 · rintro L f w ⟨bx, cK, _⟩ hL ⟨af, ae, E, e, rfl, hs, B, C⟩
   have hnhg420 := osl_n (k := 2) hs rfl (fun _ => rfl) (by decide)
   have hchg420 := osl_le (k := 2) hs rfl
   refine ow_sliceHi' (oa := so ai W ag.toNat 1) (m := aA.1.length - ag.toNat) (c := W - ag.toNat) (i := (w64 (V * U))) sl24 ty3 (fG rfl bx) (fG rfl cK) bY.1 (by have h1 := bY; have h2 := bZ; omega) ?_
   exact oN ⟨rfl, rfl, af, ae, E, e, fS rfl rfl, hs, B, C⟩
 · rintro L f w ⟨cI, _⟩ hL ⟨af, ae, E, e, rfl, hs, B, C⟩
   replace hs := hs.eqv (k := 0) rfl ((rL_f hL (rL_n)))
   replace hs := hs.eqv (k := 5) rfl ((rL_f (show L 19 = false from pF B hL) (rfl)))
   refine oC (fi := []) (vs := [.slice (so ai W ag.toNat 1) (w64 (V * U)).toNat (W - ag.toNat)]) (ca := []) rfl ⟨(fG rfl cI), trivial⟩ en44 (f44_sub (k := 2) (X := aA.1) (lo := ag) (q := (w64 (V * U))) hs rfl bZ.1 bY.1 bY.2 dh) ?_
   clear hs; rintro _ w ⟨af, ae, hs, rfl⟩
   replace hs := hs.setE (k := 0) rfl
   replace hs := hs.eqv (k := 5) rfl (Eq.symm (a := rL [(19, blk b5 26 (cL0 V U af (((aA.1.drop ag.toNat).take (w64 (V * U)).toNat).length) ae))] (blk b5 26 (cL0 0 0 none 0 0)) (setL L 17)) (((rL_f (L := setL L 17) (show L 19 = false from pF B hL) (rfl)))))
   exact oN ⟨rfl, rfl, af, ae, E, e, (Eq.trans (fSG (i := 17) rfl rfl) (Eq.trans (fD (u := undef) (i := 18) (v := .agg (cL0 V U af (((aA.1.drop ag.toNat).take (w64 (V * U)).toNat).length) ae).toArray) (L := setL L 17) (show L 18 = false from pF C hL)) (rfl))), hs, (fun _ => rfl), (fun _ => rfl)⟩
 · rintro L f w ⟨a5, aY, cd, _⟩ hL ⟨af, ae, E, e, rfl, hs, B, C⟩
   refine oU (vp := [(0, iN V), (1, iN U), (2, .slice af (((aA.1.drop ag.toNat).take (w64 (V * U)).toNat).length) ae)]) (cs := (cL0 V U af (((aA.1.drop ag.toNat).take (w64 (V * U)).toNat).length) ae)) st26 ty26 ⟨rfl, (fG rfl a5), rfl, (fG rfl aY), rfl, (fG rfl cd), trivial⟩ rfl ?_
   exact oN ⟨rfl, rfl, af, ae, E, e, fS rfl rfl, hs, B, (fun _ => cd)⟩
 · rintro L f w ⟨c9, cd, a8, a5, aZ, aY, aW, a1, a0, bK, bk, bO, bx, ce, cO, cN, cM, cK, cI, _, _, _⟩ hL ⟨af, ae, E, e, rfl, hs, B, C⟩
   replace hs := hs.eqv (k := 5) rfl ((rL_f hL (rL_n)))
   refine oS (k := 5) (vs := (cL0 V U af (((aA.1.drop ag.toNat).take (w64 (V * U)).toNat).length) ae)) (cs' := (cL0 V U af (((aA.1.drop ag.toNat).take (w64 (V * U)).toNat).length) ae)) hs rfl bQ (fG rfl c9) ty26 rfl rfl (nLe rfl) rfl rfl ?_
   clear hs; intro w hs
   exact oN ⟨rfl, rfl, af, ae, E, e, frL_no rfl, hs, (fun _ => cd), C⟩
 · rintro L f w ⟨dI, a8, a5, aZ, aY, aW, a1, a0, bK, bk, bO, bx, ce, cO, cN, cM, cK, cI, cd, c9, _, _⟩ hL ⟨af, ae, E, e, rfl, hs, B, C⟩
   refine asI rfl ?_
   exact oN ⟨rfl, rfl, af, ae, E, e, fS rfl rfl, hs, B, C⟩
 rintro L f w hall ⟨af, ae, dL, cV, rfl, hs, _, _⟩
 rw [frL_tt _ rfl hall]
 replace hs := hs.eqv (k := 0) rfl (rL_t (hall 17 (nLe rfl)))
 replace hs := hs.eqv (k := 5) rfl (rL_t (hall 19 (nLe rfl)))
 refine sK <| cw_ret <| rK (rs := [.cell 6 26, .tmp 7]) (vs := [.agg (cL0 V U af (((aA.1.drop ag.toNat).take (w64 (V * U)).toNat).length) ae).toArray, iN 0]) (.inr rfl) rfl ⟨⟨_, true, _, (cL0 V U af (((aA.1.drop ag.toNat).take (w64 (V * U)).toNat).length) ae), bQ, ty26, CA_blk (off := 0) (m := 3) (hs.blk (k := 5) rfl), rfl, rfl⟩, rfl, trivial⟩ ?_
 obtain rfl := oJ hm
 obtain ⟨du, cU, dk, hs⟩ := hs.freezeO
 replace hs := hs.erase 0
 replace hs := hs.erase 0
 replace hs := hs.erase 0
 replace hs := hs.erase 0
 replace hs := hs.erase 0
 replace hs := hs.erase 0
 replace hs := hs.erase 0
 exact ⟨du, af, ae, ((((((((br.trans bq).trans bG).trans bp).trans cn).trans cm).trans cW).trans cV).trans cU), hs, rfl, dk⟩
end Go.HL.Tz
