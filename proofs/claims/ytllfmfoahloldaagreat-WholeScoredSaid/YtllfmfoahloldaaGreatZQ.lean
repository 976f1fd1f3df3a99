/- The walks of some functions, printed by a program of ours (gox). -/
import Derived.Test.YtllfmfoahloldaaGreatZP
set_option linter.unusedVariables false
set_option linter.unusedSimpArgs false
set_option maxRecDepth 100000
set_option maxHeartbeats 400000
namespace Go.HL.Tz
open Go.HL
attribute [local irreducible] OW CW CV
theorem ty81 : TyC P 81 true [iN 0, iN 0, .slice none 0 0, iN 0, .slice none 0 0] := ⟨by kernel_rfl, by kernel_rfl, (fun h => by cases h), by kernel_rfl⟩
theorem en32 : Proofs.Enters P 32 := Proofs.enters_of Proofs.Tryz.func32 (by kernel_rfl) rfl
theorem st81 : StrT P 81 [(0, 1), (1, 1), (2, 1), (3, 1), (4, 1)] := ⟨by kernel_rfl⟩
theorem ty46 : TyC P 46 true [iN 0, iN 0, iN 0] := ⟨by kernel_rfl, by kernel_rfl, (fun h => by cases h), by kernel_rfl⟩
theorem en33 : Proofs.Enters P 33 := Proofs.enters_of Proofs.Tryz.func33 (by kernel_rfl) rfl
theorem en34 : Proofs.Enters P 34 := Proofs.enters_of Proofs.Tryz.func34 (by kernel_rfl) rfl
theorem st145 : StrT P 145 [(0, 4), (4, 3), (7, 1), (8, 1), (9, 1)] := ⟨by kernel_rfl⟩
theorem ty145 : TyC P 145 true [iN 0, iN 0, iN 0, .slice none 0 0, iN 0, iN 0, iN 0, .map none, .slice none 0 0, .slice none 0 0] := ⟨by kernel_rfl, by kernel_rfl, (fun h => by cases h), by kernel_rfl⟩
theorem ty142 : TyC P 142 false [.pointer none] := ⟨by kernel_rfl, by kernel_rfl, (fun _ => rfl), by kernel_rfl⟩
theorem fl145_3 : FldT P 145 3 8 := ⟨by kernel_rfl⟩
theorem fl81_2 : FldT P 81 2 2 := ⟨by kernel_rfl⟩
theorem fl145_2 : FldT P 145 2 7 := ⟨by kernel_rfl⟩
theorem ty143 : TyC P 143 false [.map none] := ⟨by kernel_rfl, by kernel_rfl, (fun _ => rfl), by kernel_rfl⟩
theorem en37 : Proofs.Enters P 37 := Proofs.enters_of Proofs.Tryz.func37 (by kernel_rfl) rfl
theorem mz153 (w : World) : (zeroValue 4).run P w = .ok (vbl false) w := ((ty4).run_zero w).trans rfl
theorem fl145_0 : FldT P 145 0 0 := ⟨by kernel_rfl⟩
theorem fl145_1 : FldT P 145 1 4 := ⟨by kernel_rfl⟩
theorem en63 : Proofs.Enters P 63 := Proofs.enters_of Proofs.Tryz.func63 (by kernel_rfl) rfl
theorem fl152_0 : FldT P 152 0 0 := ⟨by kernel_rfl⟩
theorem en107 : Proofs.Enters P 107 := Proofs.enters_of Proofs.Tryz.func107 (by kernel_rfl) rfl
theorem en66 : Proofs.Enters P 66 := Proofs.enters_of Proofs.Tryz.func66 (by kernel_rfl) rfl
theorem st168 : StrT P 168 [(0, 1), (1, 1), (2, 1), (3, 1), (4, 1), (5, 5), (10, 1), (11, 1)] := ⟨by kernel_rfl⟩
theorem ty168 : TyC P 168 true [.int .u8 0, iN 0, iN 0, iN 0, iN 0, iN 0, iN 0, iN 0, iN 0, iN 0, .int .u8 0, .slice none 0 0] := ⟨by kernel_rfl, by kernel_rfl, (fun h => by cases h), by kernel_rfl⟩
theorem fl145_4 : FldT P 145 4 9 := ⟨by kernel_rfl⟩
theorem ty79 : TyC P 79 false [.slice none 0 0] := ⟨by kernel_rfl, by kernel_rfl, (fun _ => rfl), by kernel_rfl⟩
theorem sl79 : SliceT P 79 168 := (by kernel_rfl : P.underlying 79 = some (.slice 168))
theorem el168 : ElT P 168 [.int .u8 0, iN 0, iN 0, iN 0, iN 0, iN 0, iN 0, iN 0, iN 0, iN 0, .int .u8 0, .slice none 0 0] 112 := ⟨by kernel_rfl⟩
theorem en65 : Proofs.Enters P 65 := Proofs.enters_of Proofs.Tryz.func65 (by kernel_rfl) rfl
theorem en106 : Proofs.Enters P 106 := Proofs.enters_of Proofs.Tryz.func106 (by kernel_rfl) rfl
theorem en64 : Proofs.Enters P 64 := Proofs.enters_of Proofs.Tryz.func64 (by kernel_rfl) rfl
theorem fl152_1 : FldT P 152 1 16 := ⟨by kernel_rfl⟩
theorem ty150 : TyC P 150 false [.slice none 0 0] := ⟨by kernel_rfl, by kernel_rfl, (fun _ => rfl), by kernel_rfl⟩
theorem sl150 : SliceT P 150 35 := (by kernel_rfl : P.underlying 150 = some (.slice 35))
theorem en40 : Proofs.Enters P 40 := Proofs.enters_of Proofs.Tryz.func40 (by kernel_rfl) rfl
theorem en39 : Proofs.Enters P 39 := Proofs.enters_of Proofs.Tryz.func39 (by kernel_rfl) rfl
theorem fl81_3 : FldT P 81 3 3 := ⟨by kernel_rfl⟩
theorem fl81_4 : FldT P 81 4 4 := ⟨by kernel_rfl⟩
def rl168 (I : Im) (x : T4x) (vs : List Value) : Prop := ∃ (a11 : Option Addr) (c11 : Nat), vs = [.int .u8 x.1, iN x.2.1, iN x.2.2.1, iN x.2.2.2.1, iN x.2.2.2.2.1, iN x.2.2.2.2.2.1, iN x.2.2.2.2.2.2.1, iN x.2.2.2.2.2.2.2.1, iN x.2.2.2.2.2.2.2.2.1, iN x.2.2.2.2.2.2.2.2.2.1, .int .u8 x.2.2.2.2.2.2.2.2.2.2.1, .slice a11 x.2.2.2.2.2.2.2.2.2.2.2.length c11] ∧ Rs I 1 a11 x.2.2.2.2.2.2.2.2.2.2.2.length c11 (x.2.2.2.2.2.2.2.2.2.2.2.flatMap e64)
theorem rl168.len {I : Im} : ∀ x vs, rl168 I x vs → vs.length = 12 := by rintro x vs ⟨a11, c11, rfl, h11⟩; rfl
theorem rl168.one {I : Im} : ∀ x vs, rl168 I x vs → vs.all Value.oneCell' = true := by rintro x vs ⟨a11, c11, rfl, h11⟩; rfl
theorem rl168.mono {I J : Im} (hle : Im.le I J) : ∀ x vs, rl168 I x vs → rl168 J x vs := by rintro x vs ⟨a11, c11, rfl, h11⟩; exact ⟨a11, c11, rfl, h11.mono hle⟩
def NN168 (I : Im) (xs : List (T4x)) (cs : List Value) : Prop := NL (rl168 I) xs cs
theorem NN168.mono {I J : Im} {xs : List (T4x)} {cs : List Value} (h : NN168 I xs cs) (hle : Im.le I J) : NN168 J xs cs := NL.mono (rl168.mono hle) h
def SN168 (I : Im) (a : Option Addr) (n c : Nat) (xs : List (T4x)) : Prop := ∃ cs, Rs I 12 a n c cs ∧ NN168 I xs cs
theorem SN168.mono {I J : Im} {a : Option Addr} {n c : Nat} {xs : List (T4x)} (h : SN168 I a n c xs) (hle : Im.le I J) : SN168 J a n c xs := by obtain ⟨cs, h1, h2⟩ := h; exact ⟨cs, h1.mono hle, h2.mono hle⟩
theorem SN168.some {I : Im} {a : Option Addr} {n c : Nat} {xs : List (T4x)} (h : SN168 I a n c xs) (hn : 0 < n) : a.isSome = true := by obtain ⟨cs, h1, _⟩ := h; exact h1.some hn
theorem SN168.nil (I : Im) (a : Option Addr) : SN168 I a 0 0 [] := ⟨[], Rs.nil _ _ _, NL.nil⟩
def f37_m (G : Int) (E : Int) (D : Int) (x : List (T2x)) (C : Int) (B : Int) (A : Int) (m : List (Int × Int)) (a : List Int) (l : List (T4x)) (M : Int) : Option (Int × Int × Int × Int × Int × Int × Int × (List (Int × Int)) × List Int × (List (T4x))) :=
  (if 0 ≤ (w64 ((a.length : Int) - 1)) ∧ (w64 ((a.length : Int) - 1)) < (a.length : Int) then (if 0 ≤ (w64 ((a.length : Int) - 1)) ∧ (w64 ((a.length : Int) - 1)) ≤ (a.length : Int) then some (getM (upM m M (at' a (w64 ((a.length : Int) - 1)))) M 0, G, E, D, C, B, A, upM m M (at' a (w64 ((a.length : Int) - 1))), a.take (w64 ((a.length : Int) - 1)).toNat, l) else none) else none)
theorem f37_ok (G : Int) (E : Int) (D : Int) (x : List (T2x)) (C : Int) (B : Int) (A : Int) (m : List (Int × Int)) (a : List Int) (l : List (T4x)) (M : Int) {r : Int × Int × Int × Int × Int × Int × Int × (List (Int × Int)) × List Int × (List (T4x))} (hm : f37_m G E D x C B A m a l M = some r) {j : Nat} {z : Option Addr} {y : Nat} {d : Nat} {e : Option Addr} {h : Nat} {u : Option Addr} {t : Nat} {H : List Value} {I : Im} {F : List HP} {w : World} (hs : Sat I (blk j 145 [iN G, iN E, iN D, .slice z x.length y, iN C, iN B, iN A, .map (some d), .slice e a.length h, .slice u l.length t] :: mq d vi64 m :: osl 3 1 e a.length h (a.flatMap e64) :: osl 168 12 u l.length t H :: F) w) (ac : SN42 I z x.length y x) (K : NN168 I l H) :
    CV P 37 [pQ j 0, iN M] w fun v w' => ∃ (J : Im) (ao_px0_8 : Option Addr) (co_px0_8 : Nat) (ao_px0_9 : Option Addr) (co_px0_9 : Nat) (so_px0_9 : List Value), Im.le I J ∧ Sat J (blk j 145 [iN r.2.1, iN r.2.2.1, iN r.2.2.2.1, .slice z x.length y, iN r.2.2.2.2.1, iN r.2.2.2.2.2.1, iN r.2.2.2.2.2.2.1, .map (some d), .slice ao_px0_8 r.2.2.2.2.2.2.2.2.1.length co_px0_8, .slice ao_px0_9 r.2.2.2.2.2.2.2.2.2.length co_px0_9] :: mq d vi64 r.2.2.2.2.2.2.2.1 :: osl 3 1 ao_px0_8 r.2.2.2.2.2.2.2.2.1.length co_px0_8 (r.2.2.2.2.2.2.2.2.1.flatMap e64) :: osl 168 12 ao_px0_9 r.2.2.2.2.2.2.2.2.2.length co_px0_9 so_px0_9 :: F) w' ∧ v = iN r.1 ∧ NN168 J r.2.2.2.2.2.2.2.2.2 so_px0_9 := by
 unfold f37_m at hm
 refine cv_of (n := 39) Proofs.Tryz.func37 rfl rfl (nLe rfl) <| cQ <| cR <| asI rfl <| oN <| sQR <| cR <| mP rfl <| oV (x_nilCheck rfl) rfl <| oF (b := j) (o := 0) fl145_3 rfl <| ld1 (k := 0) hs rfl rfl ty24 rfl ?_
 refine oV (x_len sl24 rfl) rfl <| oV (x_sub rfl rfl) rfl <| asI rfl <| oN <| sQR ?_
 have N := (iS hm).1
 replace hm := (iS hm).2
 refine cD mixed rfl (fun f0 L f w => ∃ (s : Im), Im.le I s ∧ f = frL [(12, 0, pQ j 0), (13, 1, pQ j 0), (14, 2, pQ j 7), (15, 3, .map (some d)), (16, 4, iN M), (17, 5, pQ j 0), (18, 6, pQ j 0), (19, 7, pQ j 8), (20, 8, .slice e a.length h), (21, 9, iN (w64 ((a.length : Int) - 1))), (22, 10, .pointer (some (ea e ((w64 ((a.length : Int) - 1)).toNat * 1)))), (23, 11, iN (at' a (w64 ((a.length : Int) - 1))))] L f0 ∧ Sat s (blk j 145 [iN G, iN E, iN D, .slice z x.length y, iN C, iN B, iN A, .map (some d), .slice e a.length h, .slice u l.length t] :: rL [(12, mq d vi64 (upM m M (at' a (w64 ((a.length : Int) - 1)))))] (mq d vi64 m) L :: osl 3 1 e a.length h (a.flatMap e64) :: osl 168 12 u l.length t H :: F) w) ⟨I, iR, (frL_ff _).symm, hs.drew⟩ ⟨?_, ?_, ?_, ?_, ?_, ?_, ?_, ?_, ?_, ?_, ?_, ?_, ?_, trivial⟩ ?_
 all_goals clear hs
 · rintro L f w _ hL ⟨s, c, rfl, hs⟩
   refine mP rfl ?_
   exact oN ⟨rfl, rfl, s, c, fS rfl rfl, hs⟩
 · rintro L f w ⟨ab, _⟩ hL ⟨s, c, rfl, hs⟩
   refine oV (x_nilCheck (fG rfl ab)) rfl ?_
   exact oN ⟨rfl, rfl, s, c, fS rfl rfl, hs⟩
 · rintro L f w ⟨aa, _⟩ hL ⟨s, c, rfl, hs⟩
   refine oF (b := j) (o := 0) fl145_2 (fG rfl aa) ?_
   exact oN ⟨rfl, rfl, s, c, fS rfl rfl, hs⟩
 · rintro L f w ⟨Y, _⟩ hL ⟨s, c, rfl, hs⟩
   refine ld1 (k := 0) hs rfl (fG rfl Y) ty143 rfl ?_
   exact oN ⟨rfl, rfl, s, c, fS rfl rfl, hs⟩
 · rintro L f w _ hL ⟨s, c, rfl, hs⟩
   refine mI rfl ?_
   exact oN ⟨rfl, rfl, s, c, fS rfl rfl, hs⟩
 · rintro L f w _ hL ⟨s, c, rfl, hs⟩
   refine mP rfl ?_
   exact oN ⟨rfl, rfl, s, c, fS rfl rfl, hs⟩
 · rintro L f w ⟨W, _⟩ hL ⟨s, c, rfl, hs⟩
   refine oV (x_nilCheck (fG rfl W)) rfl ?_
   exact oN ⟨rfl, rfl, s, c, fS rfl rfl, hs⟩
 · rintro L f w ⟨V, _⟩ hL ⟨s, c, rfl, hs⟩
   refine oF (b := j) (o := 0) fl145_3 (fG rfl V) ?_
   exact oN ⟨rfl, rfl, s, c, fS rfl rfl, hs⟩
 · rintro L f w ⟨U, _⟩ hL ⟨s, c, rfl, hs⟩
   refine ld1 (k := 0) hs rfl (fG rfl U) ty24 rfl ?_
   exact oN ⟨rfl, rfl, s, c, fS rfl rfl, hs⟩
 · rintro L f w _ hL ⟨s, c, rfl, hs⟩
   refine mI rfl ?_
   exact oN ⟨rfl, rfl, s, c, fS rfl rfl, hs⟩
 · rintro L f w ⟨T, S, _⟩ hL ⟨s, c, rfl, hs⟩
   refine oI (i := (w64 ((a.length : Int) - 1))) sl24 ty3 (fG rfl T) (fG rfl S) N.1 N.2 (osl_some hs (k := 2) rfl (by have := N; omega)) ?_
   exact oN ⟨rfl, rfl, s, c, fS rfl rfl, hs⟩
 · rintro L f w ⟨Q, _⟩ hL ⟨s, c, rfl, hs⟩
   refine ow_loadO (k := 2) (p := (w64 ((a.length : Int) - 1)).toNat * 1) (vs := [iN (at' a (w64 ((a.length : Int) - 1)))]) (v := iN (at' a (w64 ((a.length : Int) - 1)))) hs rfl (fG rfl Q) ty3 (flat_at (enc := e64) (sz := 1) (fun _ => rfl) a (w64 ((a.length : Int) - 1)) N.1 N.2 0 1 (by decide)) rfl rfl ?_
   exact oN ⟨rfl, rfl, s, c, fS rfl rfl, hs⟩
 · rintro L f w ⟨ae, ad, Z, ab, aa, Y, _, _, W, V, U, T, S, Q, _, _⟩ hL ⟨s, c, rfl, hs⟩
   replace hs := hs.eqv (k := 1) rfl ((rL_f hL (rL_n)))
   refine ow_updQ (q := 1) (k := M) (v := (at' a (w64 ((a.length : Int) - 1)))) mt143 hs rfl (fG rfl ae) (fG rfl ad) (fG rfl Z) ?_
   clear hs; intro w hs
   exact oN ⟨rfl, rfl, s, c, frL_no rfl, hs⟩
 rintro L f w hall ⟨I3, O, rfl, hs⟩
 rw [frL_tt _ rfl hall]
 replace hs := hs.eqv (k := 1) rfl (rL_t (hall 12 (nLe rfl)))
 refine sQR <| cR <| mP rfl <| mP rfl <| oV (x_nilCheck rfl) rfl <| oF (b := j) (o := 0) fl145_3 rfl <| ld1 (k := 0) hs rfl rfl ty24 rfl <| mI rfl ?_
 have R := (iS hm).1
 replace hm := (iS hm).2
 refine ow_sliceHi (enc := e64) (k := 2) (X := a) (i := (w64 ((a.length : Int) - 1))) hs rfl sl24 ty3 (fun _ => rfl) (by decide) rfl rfl R.1 R.2 ?_
 clear hs; intro hs
 refine oV (x_nilCheck rfl) rfl <| oF (b := j) (o := 0) fl145_3 rfl <| oS (k := 0) (vs := [.slice e ((a.take (w64 ((a.length : Int) - 1)).toNat).length) h]) (cs' := [iN G, iN E, iN D, .slice z x.length y, iN C, iN B, iN A, .map (some d), .slice e ((a.take (w64 ((a.length : Int) - 1)).toNat).length) h, .slice u l.length t]) hs rfl rfl rfl ty24 rfl rfl (nLe rfl) rfl rfl ?_
 clear hs; intro w hs
 refine oN <| sQR <| cR <| mP rfl <| oV (x_nilCheck rfl) rfl <| oF (b := j) (o := 0) fl145_2 rfl <| ld1 (k := 0) hs rfl rfl ty143 rfl <| mI rfl <| ow_lookupQ (q := 1) (k := M) (zv := 0) (v := iN (getM (upM m M (at' a (w64 ((a.length : Int) - 1)))) M 0)) mt143 mz143 hs rfl rfl rfl rfl <| asI rfl <| oN ?_
 refine sK <| cw_ret <| rK (rs := [.tmp 4]) (vs := [iN (getM (upM m M (at' a (w64 ((a.length : Int) - 1)))) M 0)]) (.inr rfl) rfl ⟨rfl, trivial⟩ ?_
 obtain rfl := oJ hm
 replace K := K.mono O
 exact ⟨I3, e, h, u, t, H, O, hs, rfl, K⟩
def f107_m (i : Int) (l : Int) (O : Int) (C : List (T2x)) (N : Int) (M : Int) (K : Int) (H : List (Int × Int)) (p : List Int) (y : List (T4x)) (x1 : Int) (x2 : Int) (x3 : Int) : Option (Int × Int × Int × Int × Int × Int × Int × (List (Int × Int)) × List Int × (List (T4x))) :=
  ((if x3 = 2 then some (max 0 (min x1 (w64 (i - 1))), max 0 (min x2 (w64 (l - 1)))) else (if x3 = 3 then (if i ≠ 0 then (if i ≠ 0 then (if l ≠ 0 then (if l ≠ 0 then some (Int.tmod (w64 ((Int.tmod x1 i) + i)) i, Int.tmod (w64 ((Int.tmod x2 l) + l)) l) else none) else none) else none) else none) else some (x1, x2))).bind fun (Q : Int × Int) => ((f59_m Q.1 0 (w64 (i - 1))).bind fun ax => ((if (!ax) = true then some true else ((f59_m Q.2 0 (w64 (l - 1))).bind fun aw => some (!aw))).bind fun az => (if az = true then some (-1, i, l, O, N, M, K, H, p, y) else some (w64 ((w64 (Q.2 * i)) + Q.1), i, l, O, N, M, K, H, p, y)))))
theorem f107_ok (i : Int) (l : Int) (O : Int) (C : List (T2x)) (N : Int) (M : Int) (K : Int) (H : List (Int × Int)) (p : List Int) (y : List (T4x)) (x1 : Int) (x2 : Int) (x3 : Int) {r : Int × Int × Int × Int × Int × Int × Int × (List (Int × Int)) × List Int × (List (T4x))} (hm : f107_m i l O C N M K H p y x1 x2 x3 = some r) {A : Nat} {G : Option Addr} {E : Nat} {q : Nat} {x : Option Addr} {t : Nat} {u : Option Addr} {s : Nat} {B : List Value} {I : Im} {F : List HP} {w : World} (hs : Sat I (blk A 145 [iN i, iN l, iN O, .slice G C.length E, iN N, iN M, iN K, .map (some q), .slice x p.length t, .slice u y.length s] :: mq q vi64 H :: osl 3 1 x p.length t (p.flatMap e64) :: osl 168 12 u y.length s B :: F) w) (aS : SN42 I G C.length E C) (R : NN168 I y B) :
    CV P 107 [pQ A 0, iN x1, iN x2, .int .u8 x3] w fun v w' => ∃ (J : Im) (ao_px0_8 : Option Addr) (co_px0_8 : Nat) (ao_px0_9 : Option Addr) (co_px0_9 : Nat) (so_px0_9 : List Value), Im.le I J ∧ Sat J (blk A 145 [iN r.2.1, iN r.2.2.1, iN r.2.2.2.1, .slice G C.length E, iN r.2.2.2.2.1, iN r.2.2.2.2.2.1, iN r.2.2.2.2.2.2.1, .map (some q), .slice ao_px0_8 r.2.2.2.2.2.2.2.2.1.length co_px0_8, .slice ao_px0_9 r.2.2.2.2.2.2.2.2.2.length co_px0_9] :: mq q vi64 r.2.2.2.2.2.2.2.1 :: osl 3 1 ao_px0_8 r.2.2.2.2.2.2.2.2.1.length co_px0_8 (r.2.2.2.2.2.2.2.2.1.flatMap e64) :: osl 168 12 ao_px0_9 r.2.2.2.2.2.2.2.2.2.length co_px0_9 so_px0_9 :: F) w' ∧ v = iN r.1 ∧ NN168 J r.2.2.2.2.2.2.2.2.2 so_px0_9 := by
 unfold f107_m at hm
 refine cv_of (n := 67) Proofs.Tryz.func107 rfl rfl (nLe rfl) <| cQ <| cR <| asI rfl <| oN <| sQR ?_
 refine cD mixed rfl (fun f0 L f w => ∃ (m : Im), Im.le I m ∧ f = frL [(11, 0, pQ A 0), (12, 1, pQ A 0), (13, 2, pQ A 0), (14, 3, pQ A 0), (15, 4, iN i), (16, 5, pQ A 0), (17, 6, pQ A 0), (18, 7, pQ A 0), (19, 8, pQ A 1), (20, 9, iN l), (9, 10, iN i), (10, 11, iN l)] L f0 ∧ Sat m (blk A 145 [iN i, iN l, iN O, .slice G C.length E, iN N, iN M, iN K, .map (some q), .slice x p.length t, .slice u y.length s] :: mq q vi64 H :: osl 3 1 x p.length t (p.flatMap e64) :: osl 168 12 u y.length s B :: F) w) ⟨I, iR, (frL_ff _).symm, hs.drew⟩ ⟨?_, ?_, ?_, ?_, ?_, ?_, ?_, ?_, ?_, ?_, ?_, ?_, trivial⟩ ?_
 all_goals clear hs
 · rintro L f w _ hL ⟨m, c, rfl, hs⟩
   refine mP rfl ?_
   exact oN ⟨rfl, rfl, m, c, fS rfl rfl, hs⟩
 · rintro L f w ⟨Z, _⟩ hL ⟨m, c, rfl, hs⟩
   refine oV (x_nilCheck (fG rfl Z)) rfl ?_
   exact oN ⟨rfl, rfl, m, c, fS rfl rfl, hs⟩
 · rintro L f w ⟨ac, _⟩ hL ⟨m, c, rfl, hs⟩
   refine oF (b := A) (o := 0) fl145_0 (fG rfl ac) ?_
   exact oN ⟨rfl, rfl, m, c, fS rfl rfl, hs⟩
 · rintro L f w ⟨ab, _⟩ hL ⟨m, c, rfl, hs⟩
   refine oF (b := A) (o := 0) fl33_0 (fG rfl ab) ?_
   exact oN ⟨rfl, rfl, m, c, fS rfl rfl, hs⟩
 · rintro L f w ⟨aa, _⟩ hL ⟨m, c, rfl, hs⟩
   refine ld1 (k := 0) hs rfl (fG rfl aa) ty3 rfl ?_
   exact oN ⟨rfl, rfl, m, c, fS rfl rfl, hs⟩
 · rintro L f w _ hL ⟨m, c, rfl, hs⟩
   refine mP rfl ?_
   exact oN ⟨rfl, rfl, m, c, fS rfl rfl, hs⟩
 · rintro L f w ⟨al, _⟩ hL ⟨m, c, rfl, hs⟩
   refine oV (x_nilCheck (fG rfl al)) rfl ?_
   exact oN ⟨rfl, rfl, m, c, fS rfl rfl, hs⟩
 · rintro L f w ⟨ar, _⟩ hL ⟨m, c, rfl, hs⟩
   refine oF (b := A) (o := 0) fl145_0 (fG rfl ar) ?_
   exact oN ⟨rfl, rfl, m, c, fS rfl rfl, hs⟩
 · rintro L f w ⟨ak, _⟩ hL ⟨m, c, rfl, hs⟩
   refine oF (b := A) (o := 0) fl33_1 (fG rfl ak) ?_
   exact oN ⟨rfl, rfl, m, c, fS rfl rfl, hs⟩
 · rintro L f w ⟨aq, _⟩ hL ⟨m, c, rfl, hs⟩
   refine ld1 (k := 0) hs rfl (fG rfl aq) ty3 rfl ?_
   exact oN ⟨rfl, rfl, m, c, fS rfl rfl, hs⟩
 · rintro L f w ⟨am, Z, ac, ab, aa, _, _⟩ hL ⟨m, c, rfl, hs⟩
   refine asI (fG rfl am) ?_
   exact oN ⟨rfl, rfl, m, c, fS rfl rfl, hs⟩
 · rintro L f w ⟨ay, au, Z, ac, ab, aa, am, al, ar, ak, aq, _, _, _⟩ hL ⟨m, c, rfl, hs⟩
   refine asI (fG rfl ay) ?_
   exact oN ⟨rfl, rfl, m, c, fS rfl rfl, hs⟩
 rintro L f w hall ⟨I2, ad, rfl, hs⟩
 rw [frL_tt _ rfl hall]
 refine sK ?_
 obtain ⟨Q, aK, aJ⟩ := bS hm
 replace hm := aK; clear aK
 refine cJ (fun f ds w => ∃ (aF : Im), ds = [] ∧ Im.le I2 aF ∧ Sat aF (blk A 145 [iN i, iN l, iN O, .slice G C.length E, iN N, iN M, iN K, .map (some q), .slice x p.length t, .slice u y.length s] :: mq q vi64 H :: osl 3 1 x p.length t (p.flatMap e64) :: osl 168 12 u y.length s B :: F) w ∧ f 1 = iN Q.1 ∧ f 2 = iN Q.2 ∧ f 8 = iN 0 ∧ f 9 = iN i ∧ f 10 = iN l) ?_ ?_
 · refine cQ <| cR <| mI rfl <| oN <| sK <| cw_block <| cQ <| cR <| oV (x_eql rfl rfl) rfl <| asB rfl <| oN <| sK ?_
   by_cases ag : x3 = 2
   · rw [if_pos ag] at hm
     refine cIt rfl (dT ag) <| cR <| mI rfl <| mI rfl <| oV (x_sub rfl rfl) rfl <| oV (x_min2 (k := .i64) (a := x1) (b := (w64 (i - 1))) rfl rfl) rfl <| oV (x_max2 (k := .i64) (a := 0) (b := (min x1 (w64 (i - 1)))) rfl rfl) rfl <| mI rfl <| mI rfl <| oV (x_sub rfl rfl) rfl <| oV (x_min2 (k := .i64) (a := x2) (b := (w64 (l - 1))) rfl rfl) rfl <| oV (x_max2 (k := .i64) (a := 0) (b := (min x2 (w64 (l - 1)))) rfl rfl) rfl ?_
     refine asI rfl <| asI rfl <| oN <| blockK_n ?_
     obtain rfl := oJ hm
     refine jN ⟨I2, rfl, iR, hs, rfl, rfl, rfl, rfl, rfl⟩
   rw [if_neg ag] at hm
   refine cIf rfl (dF ag) <| cQ <| cR <| oV (x_eql rfl rfl) rfl <| asB rfl <| oN <| sK ?_
   by_cases af : x3 = 3
   · rw [if_pos af] at hm
     refine cIt rfl (dT af) ?_
     have aO := (iS hm).1
     replace hm := (iS hm).2
     have aN := (iS hm).1
     replace hm := (iS hm).2
     have aM := (iS hm).1
     replace hm := (iS hm).2
     have aL := (iS hm).1
     replace hm := (iS hm).2
     refine cD mixed rfl (fun f0 L f w => ∃ (m : Im), Im.le I2 m ∧ f = frL [(36, 0, iN x1), (37, 1, iN i), (38, 2, iN (Int.tmod x1 i)), (39, 3, iN i), (40, 4, iN (w64 ((Int.tmod x1 i) + i))), (41, 5, iN i), (42, 6, iN (Int.tmod (w64 ((Int.tmod x1 i) + i)) i)), (43, 7, iN x2), (44, 8, iN l), (45, 9, iN (Int.tmod x2 l)), (46, 10, iN l), (47, 11, iN (w64 ((Int.tmod x2 l) + l))), (48, 12, iN l), (49, 13, iN (Int.tmod (w64 ((Int.tmod x2 l) + l)) l)), (1, 14, iN (Int.tmod (w64 ((Int.tmod x1 i) + i)) i)), (2, 15, iN (Int.tmod (w64 ((Int.tmod x2 l) + l)) l))] L f0 ∧ Sat m (blk A 145 [iN i, iN l, iN O, .slice G C.length E, iN N, iN M, iN K, .map (some q), .slice x p.length t, .slice u y.length s] :: mq q vi64 H :: osl 3 1 x p.length t (p.flatMap e64) :: osl 168 12 u y.length s B :: F) w ∧ (L 14 = true → L 0 = true) ∧ (L 15 = true → L 7 = true)) ⟨I2, iR, (frL_ff _).symm, hs.drew, (fun h => by cases h), (fun h => by cases h)⟩ ⟨?_, ?_, ?_, ?_, ?_, ?_, ?_, ?_, ?_, ?_, ?_, ?_, ?_, ?_, ?_, ?_, trivial⟩ ?_
     all_goals clear hs
     · rintro L f w _ hL ⟨m, c, rfl, hs, e, d⟩
       refine mI ((frL_old (j := 14) rfl (show L 14 = false from pF e hL)).trans rfl) ?_
       exact oN ⟨rfl, rfl, m, c, fS rfl rfl, hs, (fun _ => rfl), d⟩
     · rintro L f w _ hL ⟨m, c, rfl, hs, e, d⟩
       refine mI rfl ?_
       exact oN ⟨rfl, rfl, m, c, fS rfl rfl, hs, e, d⟩
     · rintro L f w ⟨Z, ac, _⟩ hL ⟨m, c, rfl, hs, e, d⟩
       refine oV (x_rem (fG rfl Z) (fG rfl ac) aO) rfl ?_
       exact oN ⟨rfl, rfl, m, c, fS rfl rfl, hs, e, d⟩
     · rintro L f w _ hL ⟨m, c, rfl, hs, e, d⟩
       refine mI rfl ?_
       exact oN ⟨rfl, rfl, m, c, fS rfl rfl, hs, e, d⟩
     · rintro L f w ⟨ab, aa, _⟩ hL ⟨m, c, rfl, hs, e, d⟩
       refine oV (x_add (fG rfl ab) (fG rfl aa)) rfl ?_
       exact oN ⟨rfl, rfl, m, c, fS rfl rfl, hs, e, d⟩
     · rintro L f w _ hL ⟨m, c, rfl, hs, e, d⟩
       refine mI rfl ?_
       exact oN ⟨rfl, rfl, m, c, fS rfl rfl, hs, e, d⟩
     · rintro L f w ⟨am, al, _⟩ hL ⟨m, c, rfl, hs, e, d⟩
       refine oV (x_rem (fG rfl am) (fG rfl al) aN) rfl ?_
       exact oN ⟨rfl, rfl, m, c, fS rfl rfl, hs, e, d⟩
     · rintro L f w _ hL ⟨m, c, rfl, hs, e, d⟩
       refine mI ((frL_old (j := 15) rfl (show L 15 = false from pF d hL)).trans rfl) ?_
       exact oN ⟨rfl, rfl, m, c, fS rfl rfl, hs, e, (fun _ => rfl)⟩
     · rintro L f w _ hL ⟨m, c, rfl, hs, e, d⟩
       refine mI rfl ?_
       exact oN ⟨rfl, rfl, m, c, fS rfl rfl, hs, e, d⟩
     · rintro L f w ⟨ak, aq, _⟩ hL ⟨m, c, rfl, hs, e, d⟩
       refine oV (x_rem (fG rfl ak) (fG rfl aq) aM) rfl ?_
       exact oN ⟨rfl, rfl, m, c, fS rfl rfl, hs, e, d⟩
     · rintro L f w _ hL ⟨m, c, rfl, hs, e, d⟩
       refine mI rfl ?_
       exact oN ⟨rfl, rfl, m, c, fS rfl rfl, hs, e, d⟩
     · rintro L f w ⟨ay, au, _⟩ hL ⟨m, c, rfl, hs, e, d⟩
       refine oV (x_add (fG rfl ay) (fG rfl au)) rfl ?_
       exact oN ⟨rfl, rfl, m, c, fS rfl rfl, hs, e, d⟩
     · rintro L f w _ hL ⟨m, c, rfl, hs, e, d⟩
       refine mI rfl ?_
       exact oN ⟨rfl, rfl, m, c, fS rfl rfl, hs, e, d⟩
     · rintro L f w ⟨aB, aA, _⟩ hL ⟨m, c, rfl, hs, e, d⟩
       refine oV (x_rem (fG rfl aB) (fG rfl aA) aL) rfl ?_
       exact oN ⟨rfl, rfl, m, c, fS rfl rfl, hs, e, d⟩
     · rintro L f w ⟨ar, Z, ac, ab, aa, am, al, _, _⟩ hL ⟨m, c, rfl, hs, e, d⟩
       refine asI (fG rfl ar) ?_
       exact oN ⟨rfl, rfl, m, c, fS rfl rfl, hs, (fun _ => Z), d⟩
     · rintro L f w ⟨aP, aV, Z, ac, ab, aa, am, al, ar, ak, aq, ay, au, aB, aA, _, _, _⟩ hL ⟨m, c, rfl, hs, e, d⟩
       refine asI (fG rfl aP) ?_
       exact oN ⟨rfl, rfl, m, c, fS rfl rfl, hs, e, (fun _ => ak)⟩
     rintro L f w hall ⟨aU, aE, rfl, hs, _, _⟩
     rw [frL_tt _ rfl hall]
     refine blockK_n ?_
     obtain rfl := oJ hm
     refine jN ⟨aU, rfl, aE, hs, rfl, rfl, rfl, rfl, rfl⟩
   rw [if_neg af] at hm
   refine cIf rfl (dF af) <| cw_skip <| blockK_n ?_
   obtain rfl := oJ hm
   refine jN ⟨I2, rfl, iR, hs, rfl, rfl, rfl, rfl, rfl⟩
 clear hm hs
 rintro f ds w ⟨aF, rfl, X, hs, U, T, Y, S, aj⟩
 replace hm := aJ
 refine cQ <| cQ <| cR <| mI U <| mI S <| oV (x_sub rfl rfl) rfl ?_
 obtain ⟨ax, aI, hm⟩ := bS hm
 refine oC (fi := []) (vs := (cL1 Q.1 0 (w64 (i - 1)))) (ca := []) rfl ⟨rfl, rfl, rfl, trivial⟩ en59 (f59_ok _ _ _ aI hs) ?_
 clear hs; rintro _ w ⟨aQ, W, hs, rfl⟩
 refine oV (x_not (b := ax) rfl) rfl <| mB rfl ?_
 obtain ⟨az, D, hm⟩ := bS hm
 refine oJN 6 (fun f ds w => ∃ (av : Im), ds = [] ∧ Im.le aQ av ∧ Sat av (blk A 145 [iN i, iN l, iN O, .slice G C.length E, iN N, iN M, iN K, .map (some q), .slice x p.length t, .slice u y.length s] :: mq q vi64 H :: osl 3 1 x p.length t (p.flatMap e64) :: osl 168 12 u y.length s B :: F) w ∧ f 61 = .bool az ∧ f 1 = iN Q.1 ∧ f 2 = iN Q.2 ∧ f 8 = iN 0 ∧ f 9 = iN i) ?_ ?_
 · by_cases z : (!ax) = true
   · rw [if_pos z] at D
     refine oO (b := true) (yO rfl rfl z) rfl <| oO (b := true) (yO rfl rfl z) rfl <| oO (b := true) (yO rfl rfl z) rfl <| oO (b := true) (yO rfl rfl z) rfl <| oO (b := true) (yO rfl rfl z) rfl <| oV (xPt (v := .bool true) ((rfl : ev _ _ _ = _).trans (congrArg Value.bool z)) rfl) rfl <| oN ?_
     obtain rfl := oJ D
     exact ⟨aQ, rfl, iR, hs, rfl, U, T, Y, S⟩
   rw [if_neg z] at D
   refine oG (yO rfl rfl (bF z)) <| mI T <| oG (yO rfl rfl (bF z)) <| mI aj <| oG (yO rfl rfl (bF z)) <| oV (x_sub rfl rfl) rfl <| oG (yO rfl rfl (bF z)) ?_
   obtain ⟨aw, aH, D⟩ := bS D
   refine oC (fi := []) (vs := (cL1 Q.2 0 (w64 (l - 1)))) (ca := []) rfl ⟨rfl, rfl, rfl, trivial⟩ en59 (f59_ok _ _ _ aH hs) ?_
   clear hs; rintro _ w ⟨aT, aD, hs, rfl⟩
   refine oG (yO rfl rfl (bF z)) <| oV (x_not (b := aw) rfl) rfl <| oV (xPf (v := .bool (!aw)) ((rfl : ev _ _ _ = _).trans (congrArg Value.bool (bF z))) rfl) rfl <| oN ?_
   obtain rfl := oJ D
   exact ⟨aT, rfl, aD, hs, rfl, U, T, Y, S⟩
 clear D hs
 rintro f ds w ⟨av, rfl, V, hs, htbb28, ap, ao, aG, an⟩
 refine oN <| sK ?_
 by_cases ae : az = true
 · rw [if_pos ae] at hm
   refine cIt htbb28 ae <| cQ <| cR <| asI rfl <| oN <| sK <| cw_ret <| seqK_r <| rK (rs := [.tmp 8]) (vs := [iN (-1)]) (.inr rfl) rfl ⟨rfl, trivial⟩ ?_
   obtain rfl := oJ hm
   replace R := R.mono (((ad.trans X).trans W).trans V)
   exact ⟨av, x, t, u, s, B, (((ad.trans X).trans W).trans V), hs, rfl, R⟩
 rw [if_neg ae] at hm
 refine cIf htbb28 (bF ae) <| cw_skip <| sQR <| cR <| mI ao <| mI an <| oV (x_mul rfl rfl) rfl <| mI ap <| oV (x_add rfl rfl) rfl <| asI rfl <| oN ?_
 refine sK <| cw_ret <| rK (rs := [.tmp 8]) (vs := [iN (w64 ((w64 (Q.2 * i)) + Q.1))]) (.inr rfl) rfl ⟨rfl, trivial⟩ ?_
 obtain rfl := oJ hm
 replace R := R.mono (((ad.trans X).trans W).trans V)
 exact ⟨av, x, t, u, s, B, (((ad.trans X).trans W).trans V), hs, rfl, R⟩
def f66_l0 (af : List (T2x)) (U : Int) (x1 : Int) (x2 : Int) (x3 : Int) (x4 : Int) (x5 : Int) : Nat → Int → (List Int) → Int → Int → Int → Int → Int → Int → (List (Int × Int)) → (List Int) → (List (T4x)) → Option (List Int × Int × Int × Int × Int × Int × Int × (List (Int × Int)) × List Int × (List (T4x)))
  | 0, _, _, _, _, _, _, _, _, _, _, _ => none
  | k + 1, t, aa, u, M, X, B, W, V, Z, K, N => (if t < ((List.replicate U.toNat (0 : Int)).length : Int) then (if 0 ≤ t ∧ t < (aa.length : Int) then (if (w64 ((w64 (x1 * B)) + t)) < (w64 (u * M)) then (if u ≠ 0 then (if u ≠ 0 then ((f107_m u M X af B W V Z K N (w64 ((Int.tmod (w64 ((w64 (x1 * B)) + t)) u) + x3)) (w64 ((w64 (Int.tdiv (w64 ((w64 (x1 * B)) + t)) u)) + x4)) x5).bind fun C => (if 0 ≤ C.1 then (if 0 ≤ t ∧ t < ((aa.set t.toNat (-1)).length : Int) then (f66_l0 af U x1 x2 x3 x4 x5 k (w64 (t + 1)) ((aa.set t.toNat (-1)).set t.toNat (w64 (x2 + C.1))) C.2.1 C.2.2.1 C.2.2.2.1 C.2.2.2.2.1 C.2.2.2.2.2.1 C.2.2.2.2.2.2.1 C.2.2.2.2.2.2.2.1 C.2.2.2.2.2.2.2.2.1 C.2.2.2.2.2.2.2.2.2) else none) else (f66_l0 af U x1 x2 x3 x4 x5 k (w64 (t + 1)) (aa.set t.toNat (-1)) C.2.1 C.2.2.1 C.2.2.2.1 C.2.2.2.2.1 C.2.2.2.2.2.1 C.2.2.2.2.2.2.1 C.2.2.2.2.2.2.2.1 C.2.2.2.2.2.2.2.2.1 C.2.2.2.2.2.2.2.2.2))) else none) else none) else (f66_l0 af U x1 x2 x3 x4 x5 k (w64 (t + 1)) (aa.set t.toNat (-1)) u M X B W V Z K N)) else none) else some (aa, u, M, X, B, W, V, Z, K, N))
def f66_m (aM : Int) (aL : Int) (aK : Int) (af : List (T2x)) (U : Int) (aJ : Int) (aI : Int) (aH : List (Int × Int)) (aA : List Int) (az : List (T4x)) (x1 : Int) (x2 : Int) (x3 : Int) (x4 : Int) (x5 : Int) : Option (List Int × Int × Int × Int × Int × Int × Int × (List (Int × Int)) × List Int × (List (T4x))) :=
  (if 0 ≤ U ∧ U ≤ U ∧ U ≤ 1099511627776 then ((f66_l0 af U x1 x2 x3 x4 x5 FUEL 0 (List.replicate U.toNat (0 : Int)) aM aL aK U aJ aI aH aA az).bind fun (ag : List Int × Int × Int × Int × Int × Int × Int × (List (Int × Int)) × List Int × (List (T4x))) => some (ag.1, ag.2.1, ag.2.2.1, ag.2.2.2.1, ag.2.2.2.2.1, ag.2.2.2.2.2.1, ag.2.2.2.2.2.2.1, ag.2.2.2.2.2.2.2.1, ag.2.2.2.2.2.2.2.2.1, ag.2.2.2.2.2.2.2.2.2)) else none)
theorem f66_ok (aM : Int) (aL : Int) (aK : Int) (af : List (T2x)) (U : Int) (aJ : Int) (aI : Int) (aH : List (Int × Int)) (aA : List Int) (az : List (T4x)) (x1 : Int) (x2 : Int) (x3 : Int) (x4 : Int) (x5 : Int) {r : List Int × Int × Int × Int × Int × Int × Int × (List (Int × Int)) × List Int × (List (T4x))} (hm : f66_m aM aL aK af U aJ aI aH aA az x1 x2 x3 x4 x5 = some r) {ac : Nat} {ai : Option Addr} {ah : Nat} {ad : Nat} {aS : Option Addr} {aQ : Nat} {aR : Option Addr} {aP : Nat} {aN : List Value} {I : Im} {F : List HP} {w : World} (hs : Sat I (blk ac 145 [iN aM, iN aL, iN aK, .slice ai af.length ah, iN U, iN aJ, iN aI, .map (some ad), .slice aS aA.length aQ, .slice aR az.length aP] :: mq ad vi64 aH :: osl 3 1 aS aA.length aQ (aA.flatMap e64) :: osl 168 12 aR az.length aP aN :: F) w) (aO : SN42 I ai af.length ah af) (bu : NN168 I az aN) :
    CV P 66 [pQ ac 0, iN x1, iN x2, iN x3, iN x4, .int .u8 x5] w fun v w' => ∃ (J : Im) (a0 : Option Addr) (c0 : Nat) (ao_px0_8 : Option Addr) (co_px0_8 : Nat) (ao_px0_9 : Option Addr) (co_px0_9 : Nat) (so_px0_9 : List Value), Im.le I J ∧ Sat J (blk ac 145 [iN r.2.1, iN r.2.2.1, iN r.2.2.2.1, .slice ai af.length ah, iN r.2.2.2.2.1, iN r.2.2.2.2.2.1, iN r.2.2.2.2.2.2.1, .map (some ad), .slice ao_px0_8 r.2.2.2.2.2.2.2.2.1.length co_px0_8, .slice ao_px0_9 r.2.2.2.2.2.2.2.2.2.length co_px0_9] :: mq ad vi64 r.2.2.2.2.2.2.2.1 :: osl 3 1 ao_px0_8 r.2.2.2.2.2.2.2.2.1.length co_px0_8 (r.2.2.2.2.2.2.2.2.1.flatMap e64) :: osl 168 12 ao_px0_9 r.2.2.2.2.2.2.2.2.2.length co_px0_9 so_px0_9 :: F) w' ∧ v = .slice a0 r.1.length c0 ∧ Rs J 1 a0 r.1.length c0 (r.1.flatMap e64) ∧ NN168 J r.2.2.2.2.2.2.2.2.2 so_px0_9 := by
 unfold f66_m at hm
 refine cv_of (n := 84) Proofs.Tryz.func66 rfl rfl (nLe rfl) <| cQ <| cR <| asS rfl <| oN <| sQR <| cR <| mP rfl <| oV (x_nilCheck rfl) rfl <| oF (b := ac) (o := 0) fl145_1 rfl <| oF (b := ac) (o := 4) fl46_0 rfl ?_
 refine ld1 (k := 0) hs rfl rfl ty3 rfl ?_
 have bz := (iS hm).1
 replace hm := (iS hm).2
 refine ow_makeT (enc := e64) (z := (0 : Int)) (i := U) (j := U) hs sl24 ty3 el3 rfl rfl rfl rfl bz.1 bz.2.1 bz.2.2 (by decide) ?_
 clear hs; intro a2 w hs
 refine asS rfl <| oN <| sK ?_
 obtain ⟨ag, bD, bC⟩ := bS hm
 replace hm := bD; clear bD
 refine cJ (fun f ds w => ∃ (T : Option Addr) (Q : Nat) (R : Option Addr) (O : Nat) (Y : List Value) (bm : Im), ds = [] ∧ Im.le I bm ∧ Sat bm (osl 3 1 a2 (List.replicate U.toNat (0 : Int)).length U.toNat (ag.1.flatMap e64) :: blk ac 145 [iN ag.2.1, iN ag.2.2.1, iN ag.2.2.2.1, .slice ai af.length ah, iN ag.2.2.2.2.1, iN ag.2.2.2.2.2.1, iN ag.2.2.2.2.2.2.1, .map (some ad), .slice T ag.2.2.2.2.2.2.2.2.1.length Q, .slice R ag.2.2.2.2.2.2.2.2.2.length O] :: mq ad vi64 ag.2.2.2.2.2.2.2.1 :: osl 3 1 T ag.2.2.2.2.2.2.2.2.1.length Q (ag.2.2.2.2.2.2.2.2.1.flatMap e64) :: osl 168 12 R ag.2.2.2.2.2.2.2.2.2.length O Y :: F) w ∧ f 12 = .slice none 0 0 ∧ f 13 = .slice a2 ((List.replicate U.toNat (0 : Int)).length) U.toNat ∧ NN168 bm ag.2.2.2.2.2.2.2.2.2 Y) ?_ ?_
 · refine cQ <| cR <| mS rfl <| oV (x_len sl24 rfl) rfl <| mI rfl <| oN <| sK <| cw_block ?_
   refine cL (S := fun k f ds w => ∃ (t : Int) (aa : List Int) (u : Int) (M : Int) (X : Int) (B : Int) (W : Int) (V : Int) (Z : List (Int × Int)) (K : List Int) (N : List (T4x)), ∃ (T : Option Addr) (Q : Nat) (R : Option Addr) (O : Nat) (Y : List Value) (aD : Im), ds = [] ∧ Im.le I aD ∧ f66_l0 af U x1 x2 x3 x4 x5 k t aa u M X B W V Z K N = some ag ∧ Sat aD (osl 3 1 a2 (List.replicate U.toNat (0 : Int)).length U.toNat (aa.flatMap e64) :: blk ac 145 [iN u, iN M, iN X, .slice ai af.length ah, iN B, iN W, iN V, .map (some ad), .slice T K.length Q, .slice R N.length O] :: mq ad vi64 Z :: osl 3 1 T K.length Q (K.flatMap e64) :: osl 168 12 R N.length O Y :: F) w ∧ f 0 = pQ ac 0 ∧ f 1 = iN x1 ∧ f 2 = iN x2 ∧ f 3 = iN x3 ∧ f 4 = iN x4 ∧ f 5 = .int .u8 x5 ∧ f 12 = .slice none 0 0 ∧ f 13 = .slice a2 ((List.replicate U.toNat (0 : Int)).length) U.toNat ∧ f 24 = iN ((List.replicate U.toNat (0 : Int)).length : Int) ∧ f 25 = iN t ∧ NN168 aD N Y) ?_ (k := FUEL) ⟨0, List.replicate U.toNat (0 : Int), aM, aL, aK, U, aJ, aI, aH, aA, az, aS, aQ, aR, aP, aN, I, rfl, iR, hm, hs, rfl, rfl, rfl, rfl, rfl, rfl, rfl, rfl, rfl, rfl, bu⟩
   clear hm hs
   rintro k f ds w ⟨t, aa, u, M, X, B, W, V, Z, K, N, T, Q, R, O, Y, aD, rfl, aq, hm, hs, aj, ay, ax, aw, av, au, ap, al, ao, am, ab⟩
   rcases k with _ | k
   · unfold f66_l0 at hm; cases hm
   unfold f66_l0 at hm
   refine cQ <| cR <| oV (x_lss am ao) rfl <| oN <| sQR ?_
   by_cases aG : t < ((List.replicate U.toNat (0 : Int)).length : Int)
   · rw [if_pos aG] at hm
     refine cIt rfl (dT aG) <| cw_skip <| sQR <| cw_block <| cQ <| cR <| mI am <| asI rfl <| oN <| sQR ?_
     refine cR <| mS al <| mI rfl ?_
     have aC := (iS hm).1
     replace hm := (iS hm).2
     have bI := osl_n (k := 0) hs rfl (fun _ => rfl) (by decide)
     refine oI (i := t) sl24 ty3 rfl rfl aC.1 (by have := aC; omega) (osl_some hs (k := 0) rfl (by have := aC; omega)) <| ow_storeT (k := 0) (enc := e64) (xx := -1) (i := t) (m := (List.replicate U.toNat (0 : Int)).length) (vs := [iN (-1)]) hs rfl rfl rfl ty3 rfl rfl rfl (fun _ => rfl) (by decide) aC.1 aC.2 ?_
     clear hs; intro w hs
     refine oN <| sQR <| cR <| mI ay <| mP aj <| oV (x_nilCheck rfl) rfl <| oF (b := ac) (o := 0) fl145_1 rfl <| oF (b := ac) (o := 4) fl46_0 rfl <| ld1 (k := 1) hs rfl rfl ty3 rfl <| oV (x_mul rfl rfl) rfl <| mI rfl ?_
     refine oV (x_add rfl rfl) rfl <| asI rfl <| oN <| sQR ?_
     refine cD mixed rfl (fun f0 L f w => ∃ (Iq : Im), Im.le aD Iq ∧ f = frL [(40, 0, iN (w64 ((w64 (x1 * B)) + t))), (41, 1, pQ ac 0), (42, 2, pQ ac 0), (43, 3, pQ ac 0), (44, 4, pQ ac 0), (45, 5, iN u), (46, 6, pQ ac 0), (47, 7, pQ ac 0), (48, 8, pQ ac 0), (49, 9, pQ ac 1), (50, 10, iN M), (51, 11, iN (w64 (u * M))), (52, 12, .bool (decide ((w64 ((w64 (x1 * B)) + t)) < (w64 (u * M)))))] L f0 ∧ Sat Iq (osl 3 1 a2 (List.replicate U.toNat (0 : Int)).length U.toNat ((aa.set t.toNat (-1)).flatMap e64) :: blk ac 145 [iN u, iN M, iN X, .slice ai af.length ah, iN B, iN W, iN V, .map (some ad), .slice T K.length Q, .slice R N.length O] :: mq ad vi64 Z :: osl 3 1 T K.length Q (K.flatMap e64) :: osl 168 12 R N.length O Y :: F) w) ⟨aD, iR, (frL_ff _).symm, hs.drew⟩ ⟨?_, ?_, ?_, ?_, ?_, ?_, ?_, ?_, ?_, ?_, ?_, ?_, ?_, trivial⟩ ?_
     all_goals clear hs
     · rintro L f w _ hL ⟨Iq, E, rfl, hs⟩
       refine mI rfl ?_
       exact oN ⟨rfl, rfl, Iq, E, fS rfl rfl, hs⟩
     · rintro L f w _ hL ⟨Iq, E, rfl, hs⟩
       refine mP aj ?_
       exact oN ⟨rfl, rfl, Iq, E, fS rfl rfl, hs⟩
     · rintro L f w ⟨bj, _⟩ hL ⟨Iq, E, rfl, hs⟩
       refine oV (x_nilCheck (fG rfl bj)) rfl ?_
       exact oN ⟨rfl, rfl, Iq, E, fS rfl rfl, hs⟩
     · rintro L f w ⟨bi, _⟩ hL ⟨Iq, E, rfl, hs⟩
       refine oF (b := ac) (o := 0) fl145_0 (fG rfl bi) ?_
       exact oN ⟨rfl, rfl, Iq, E, fS rfl rfl, hs⟩
     · rintro L f w ⟨bh, _⟩ hL ⟨Iq, E, rfl, hs⟩
       refine oF (b := ac) (o := 0) fl33_0 (fG rfl bh) ?_
       exact oN ⟨rfl, rfl, Iq, E, fS rfl rfl, hs⟩
     · rintro L f w ⟨bg, _⟩ hL ⟨Iq, E, rfl, hs⟩
       refine ld1 (k := 1) hs rfl (fG rfl bg) ty3 rfl ?_
       exact oN ⟨rfl, rfl, Iq, E, fS rfl rfl, hs⟩
     · rintro L f w _ hL ⟨Iq, E, rfl, hs⟩
       refine mP aj ?_
       exact oN ⟨rfl, rfl, Iq, E, fS rfl rfl, hs⟩
     · rintro L f w ⟨a7, _⟩ hL ⟨Iq, E, rfl, hs⟩
       refine oV (x_nilCheck (fG rfl a7)) rfl ?_
       exact oN ⟨rfl, rfl, Iq, E, fS rfl rfl, hs⟩
     · rintro L f w ⟨a6, _⟩ hL ⟨Iq, E, rfl, hs⟩
       refine oF (b := ac) (o := 0) fl145_0 (fG rfl a6) ?_
       exact oN ⟨rfl, rfl, Iq, E, fS rfl rfl, hs⟩
     · rintro L f w ⟨be, _⟩ hL ⟨Iq, E, rfl, hs⟩
       refine oF (b := ac) (o := 0) fl33_1 (fG rfl be) ?_
       exact oN ⟨rfl, rfl, Iq, E, fS rfl rfl, hs⟩
     · rintro L f w ⟨a5, _⟩ hL ⟨Iq, E, rfl, hs⟩
       refine ld1 (k := 1) hs rfl (fG rfl a5) ty3 rfl ?_
       exact oN ⟨rfl, rfl, Iq, E, fS rfl rfl, hs⟩
     · rintro L f w ⟨bf, aZ, _⟩ hL ⟨Iq, E, rfl, hs⟩
       refine oV (x_mul (fG rfl bf) (fG rfl aZ)) rfl ?_
       exact oN ⟨rfl, rfl, Iq, E, fS rfl rfl, hs⟩
     · rintro L f w ⟨bk, aY, _⟩ hL ⟨Iq, E, rfl, hs⟩
       refine oV (x_lss (fG rfl bk) (fG rfl aY)) rfl ?_
       exact oN ⟨rfl, rfl, Iq, E, fS rfl rfl, hs⟩
     rintro L f w hall ⟨bb, an, rfl, hs⟩
     rw [frL_tt _ rfl hall]
     refine sK ?_
     by_cases aF : (w64 ((w64 (x1 * B)) + t)) < (w64 (u * M))
     · rw [if_pos aF] at hm
       refine cIt rfl (dT aF) <| cQ ?_
       have bx := (iS hm).1
       replace hm := (iS hm).2
       have bw := (iS hm).1
       replace hm := (iS hm).2
       obtain ⟨C, bv, hm⟩ := bS hm
       refine cD mixed rfl (fun f0 L f w => ∃ (p : Option Addr) (e : Nat) (l : Option Addr) (d : Nat) (s : List Value) (Iq : Im), Im.le bb Iq ∧ f = frL [(53, 0, pQ ac 0), (54, 1, iN (w64 ((w64 (x1 * B)) + t))), (55, 2, pQ ac 0), (56, 3, pQ ac 0), (57, 4, pQ ac 0), (58, 5, pQ ac 0), (59, 6, iN u), (60, 7, iN (Int.tmod (w64 ((w64 (x1 * B)) + t)) u)), (61, 8, iN x3), (62, 9, iN (w64 ((Int.tmod (w64 ((w64 (x1 * B)) + t)) u) + x3))), (63, 10, iN (w64 ((w64 (x1 * B)) + t))), (64, 11, pQ ac 0), (65, 12, pQ ac 0), (66, 13, pQ ac 0), (67, 14, pQ ac 0), (68, 15, iN u), (69, 16, iN (w64 (Int.tdiv (w64 ((w64 (x1 * B)) + t)) u))), (70, 17, iN x4), (71, 18, iN (w64 ((w64 (Int.tdiv (w64 ((w64 (x1 * B)) + t)) u)) + x4))), (72, 19, .int .u8 x5), (73, 20, iN C.1), (16, 21, iN C.1)] L f0 ∧ Sat Iq (osl 3 1 a2 (List.replicate U.toNat (0 : Int)).length U.toNat ((aa.set t.toNat (-1)).flatMap e64) :: rL [(20, blk ac 145 [iN C.2.1, iN C.2.2.1, iN C.2.2.2.1, .slice ai af.length ah, iN C.2.2.2.2.1, iN C.2.2.2.2.2.1, iN C.2.2.2.2.2.2.1, .map (some ad), .slice p C.2.2.2.2.2.2.2.2.1.length e, .slice l C.2.2.2.2.2.2.2.2.2.length d])] (blk ac 145 [iN u, iN M, iN X, .slice ai af.length ah, iN B, iN W, iN V, .map (some ad), .slice T K.length Q, .slice R N.length O]) L :: rL [(20, mq ad vi64 C.2.2.2.2.2.2.2.1)] (mq ad vi64 Z) L :: rL [(20, osl 3 1 p C.2.2.2.2.2.2.2.2.1.length e (C.2.2.2.2.2.2.2.2.1.flatMap e64))] (osl 3 1 T K.length Q (K.flatMap e64)) L :: rL [(20, osl 168 12 l C.2.2.2.2.2.2.2.2.2.length d s)] (osl 168 12 R N.length O Y) L :: F) w ∧ (L 20 = true → NN168 Iq C.2.2.2.2.2.2.2.2.2 s) ∧ (L 7 = true → L 6 = true) ∧ (L 9 = true → L 6 = true) ∧ (L 20 = true → L 6 = true) ∧ (L 16 = true → L 15 = true) ∧ (L 18 = true → L 15 = true) ∧ (L 20 = true → L 15 = true)) ⟨none, 0, none, 0, [], bb, iR, (frL_ff _).symm, hs.drew, (fun h => by cases h), (fun h => by cases h), (fun h => by cases h), (fun h => by cases h), (fun h => by cases h), (fun h => by cases h), (fun h => by cases h)⟩ ⟨?_, ?_, ?_, ?_, ?_, ?_, ?_, ?_, ?_, ?_, ?_, ?_, ?_, ?_, ?_, ?_, ?_, ?_, ?_, ?_, ?_, ?_, trivial⟩ ?_
       all_goals clear hs
       · rintro L f w _ hL ⟨p, e, l, d, s, Iq, E, rfl, hs, q, H, G, D, A, y, x⟩
         refine mP aj ?_
         exact oN ⟨rfl, rfl, p, e, l, d, s, Iq, E, fS rfl rfl, hs, (fun h => q h), H, G, D, A, y, x⟩
       · rintro L f w _ hL ⟨p, e, l, d, s, Iq, E, rfl, hs, q, H, G, D, A, y, x⟩
         refine mI rfl ?_
         exact oN ⟨rfl, rfl, p, e, l, d, s, Iq, E, fS rfl rfl, hs, (fun h => q h), H, G, D, A, y, x⟩
       · rintro L f w _ hL ⟨p, e, l, d, s, Iq, E, rfl, hs, q, H, G, D, A, y, x⟩
         refine mP aj ?_
         exact oN ⟨rfl, rfl, p, e, l, d, s, Iq, E, fS rfl rfl, hs, (fun h => q h), H, G, D, A, y, x⟩
       · rintro L f w ⟨bi, _⟩ hL ⟨p, e, l, d, s, Iq, E, rfl, hs, q, H, G, D, A, y, x⟩
         refine oV (x_nilCheck (fG rfl bi)) rfl ?_
         exact oN ⟨rfl, rfl, p, e, l, d, s, Iq, E, fS rfl rfl, hs, (fun h => q h), H, G, D, A, y, x⟩
       · rintro L f w ⟨bh, _⟩ hL ⟨p, e, l, d, s, Iq, E, rfl, hs, q, H, G, D, A, y, x⟩
         refine oF (b := ac) (o := 0) fl145_0 (fG rfl bh) ?_
         exact oN ⟨rfl, rfl, p, e, l, d, s, Iq, E, fS rfl rfl, hs, (fun h => q h), H, G, D, A, y, x⟩
       · rintro L f w ⟨bg, _⟩ hL ⟨p, e, l, d, s, Iq, E, rfl, hs, q, H, G, D, A, y, x⟩
         refine oF (b := ac) (o := 0) fl33_0 (fG rfl bg) ?_
         exact oN ⟨rfl, rfl, p, e, l, d, s, Iq, E, fS rfl rfl, hs, (fun h => q h), H, G, D, A, y, x⟩
       · rintro L f w ⟨bf, _⟩ hL ⟨p, e, l, d, s, Iq, E, rfl, hs, q, H, G, D, A, y, x⟩
         replace hs := hs.eqv (k := 1) rfl ((rL_f (show L 20 = false from pF D hL) (rL_n)))
         refine ld1 (k := 1) hs rfl (fG rfl bf) ty3 rfl ?_
         replace hs := hs.eqv (k := 1) rfl (Eq.symm (a := rL [(20, blk ac 145 [iN C.2.1, iN C.2.2.1, iN C.2.2.2.1, .slice ai af.length ah, iN C.2.2.2.2.1, iN C.2.2.2.2.2.1, iN C.2.2.2.2.2.2.1, .map (some ad), .slice p C.2.2.2.2.2.2.2.2.1.length e, .slice l C.2.2.2.2.2.2.2.2.2.length d])] (blk ac 145 [iN u, iN M, iN X, .slice ai af.length ah, iN B, iN W, iN V, .map (some ad), .slice T K.length Q, .slice R N.length O]) (setL L 6)) (((rL_f (L := setL L 6) (show L 20 = false from pF D hL) (rL_n)))))
         exact oN ⟨rfl, rfl, p, e, l, d, s, Iq, E, fS rfl rfl, hs, (fun h => q h), (fun _ => rfl), (fun _ => rfl), (fun _ => rfl), A, y, x⟩
       · rintro L f w ⟨bj, a7, _⟩ hL ⟨p, e, l, d, s, Iq, E, rfl, hs, q, H, G, D, A, y, x⟩
         refine oV (x_rem (fG rfl bj) (fG rfl a7) bx) rfl ?_
         exact oN ⟨rfl, rfl, p, e, l, d, s, Iq, E, fS rfl rfl, hs, (fun h => q h), (fun _ => a7), G, D, A, y, x⟩
       · rintro L f w _ hL ⟨p, e, l, d, s, Iq, E, rfl, hs, q, H, G, D, A, y, x⟩
         refine mI aw ?_
         exact oN ⟨rfl, rfl, p, e, l, d, s, Iq, E, fS rfl rfl, hs, (fun h => q h), H, G, D, A, y, x⟩
       · rintro L f w ⟨a6, be, _⟩ hL ⟨p, e, l, d, s, Iq, E, rfl, hs, q, H, G, D, A, y, x⟩
         refine oV (x_add (fG rfl a6) (fG rfl be)) rfl ?_
         exact oN ⟨rfl, rfl, p, e, l, d, s, Iq, E, fS rfl rfl, hs, (fun h => q h), H, (fun _ => (H a6)), D, A, y, x⟩
       · rintro L f w _ hL ⟨p, e, l, d, s, Iq, E, rfl, hs, q, H, G, D, A, y, x⟩
         refine mI rfl ?_
         exact oN ⟨rfl, rfl, p, e, l, d, s, Iq, E, fS rfl rfl, hs, (fun h => q h), H, G, D, A, y, x⟩
       · rintro L f w _ hL ⟨p, e, l, d, s, Iq, E, rfl, hs, q, H, G, D, A, y, x⟩
         refine mP aj ?_
         exact oN ⟨rfl, rfl, p, e, l, d, s, Iq, E, fS rfl rfl, hs, (fun h => q h), H, G, D, A, y, x⟩
       · rintro L f w ⟨aY, _⟩ hL ⟨p, e, l, d, s, Iq, E, rfl, hs, q, H, G, D, A, y, x⟩
         refine oV (x_nilCheck (fG rfl aY)) rfl ?_
         exact oN ⟨rfl, rfl, p, e, l, d, s, Iq, E, fS rfl rfl, hs, (fun h => q h), H, G, D, A, y, x⟩
       · rintro L f w ⟨bs, _⟩ hL ⟨p, e, l, d, s, Iq, E, rfl, hs, q, H, G, D, A, y, x⟩
         refine oF (b := ac) (o := 0) fl145_0 (fG rfl bs) ?_
         exact oN ⟨rfl, rfl, p, e, l, d, s, Iq, E, fS rfl rfl, hs, (fun h => q h), H, G, D, A, y, x⟩
       · rintro L f w ⟨br, _⟩ hL ⟨p, e, l, d, s, Iq, E, rfl, hs, q, H, G, D, A, y, x⟩
         refine oF (b := ac) (o := 0) fl33_0 (fG rfl br) ?_
         exact oN ⟨rfl, rfl, p, e, l, d, s, Iq, E, fS rfl rfl, hs, (fun h => q h), H, G, D, A, y, x⟩
       · rintro L f w ⟨bq, _⟩ hL ⟨p, e, l, d, s, Iq, E, rfl, hs, q, H, G, D, A, y, x⟩
         replace hs := hs.eqv (k := 1) rfl ((rL_f (show L 20 = false from pF x hL) (rL_n)))
         refine ld1 (k := 1) hs rfl (fG rfl bq) ty3 rfl ?_
         replace hs := hs.eqv (k := 1) rfl (Eq.symm (a := rL [(20, blk ac 145 [iN C.2.1, iN C.2.2.1, iN C.2.2.2.1, .slice ai af.length ah, iN C.2.2.2.2.1, iN C.2.2.2.2.2.1, iN C.2.2.2.2.2.2.1, .map (some ad), .slice p C.2.2.2.2.2.2.2.2.1.length e, .slice l C.2.2.2.2.2.2.2.2.2.length d])] (blk ac 145 [iN u, iN M, iN X, .slice ai af.length ah, iN B, iN W, iN V, .map (some ad), .slice T K.length Q, .slice R N.length O]) (setL L 15)) (((rL_f (L := setL L 15) (show L 20 = false from pF x hL) (rL_n)))))
         exact oN ⟨rfl, rfl, p, e, l, d, s, Iq, E, fS rfl rfl, hs, (fun h => q h), H, G, D, (fun _ => rfl), (fun _ => rfl), (fun _ => rfl)⟩
       · rintro L f w ⟨aZ, ba, _⟩ hL ⟨p, e, l, d, s, Iq, E, rfl, hs, q, H, G, D, A, y, x⟩
         refine oV (x_quo (fG rfl aZ) (fG rfl ba) bw) rfl ?_
         exact oN ⟨rfl, rfl, p, e, l, d, s, Iq, E, fS rfl rfl, hs, (fun h => q h), H, G, D, (fun _ => ba), y, x⟩
       · rintro L f w _ hL ⟨p, e, l, d, s, Iq, E, rfl, hs, q, H, G, D, A, y, x⟩
         refine mI av ?_
         exact oN ⟨rfl, rfl, p, e, l, d, s, Iq, E, fS rfl rfl, hs, (fun h => q h), H, G, D, A, y, x⟩
       · rintro L f w ⟨a9, bp, _⟩ hL ⟨p, e, l, d, s, Iq, E, rfl, hs, q, H, G, D, A, y, x⟩
         refine oV (x_add (fG rfl a9) (fG rfl bp)) rfl ?_
         exact oN ⟨rfl, rfl, p, e, l, d, s, Iq, E, fS rfl rfl, hs, (fun h => q h), H, G, D, A, (fun _ => (A a9)), x⟩
       · rintro L f w _ hL ⟨p, e, l, d, s, Iq, E, rfl, hs, q, H, G, D, A, y, x⟩
         refine mI au ?_
         exact oN ⟨rfl, rfl, p, e, l, d, s, Iq, E, fS rfl rfl, hs, (fun h => q h), H, G, D, A, y, x⟩
       · rintro L f w ⟨bk, a5, a8, bo, _⟩ hL ⟨p, e, l, d, s, Iq, E, rfl, hs, q, H, G, D, A, y, x⟩
         replace hs := hs.eqv (k := 1) rfl ((rL_f hL (rL_n)))
         replace hs := hs.eqv (k := 2) rfl ((rL_f hL (rL_n)))
         replace hs := hs.eqv (k := 3) rfl ((rL_f hL (rL_n)))
         replace hs := hs.eqv (k := 4) rfl ((rL_f hL (rL_n)))
         replace hs := hs.front (k := 4) rfl
         replace hs := hs.front (k := 4) rfl
         replace hs := hs.front (k := 4) rfl
         replace hs := hs.front (k := 4) rfl
         replace aO := aO.mono ((aq.trans an).trans E); replace ab := ab.mono (an.trans E)
         refine oC (fi := []) (vs := [pQ ac 0, iN (w64 ((Int.tmod (w64 ((w64 (x1 * B)) + t)) u) + x3)), iN (w64 ((w64 (Int.tdiv (w64 ((w64 (x1 * B)) + t)) u)) + x4)), .int .u8 x5]) (ca := []) rfl ⟨(fG rfl bk), (fG rfl a5), (fG rfl a8), (fG rfl bo), trivial⟩ en107 (f107_ok _ _ _ _ _ _ _ _ _ _ _ _ _ bv hs aO ab) ?_
         clear hs; rintro _ w ⟨bG, p, e, l, d, s, bd, hs, rfl, hNz114_px0_9⟩
         replace hs := hs.front (k := 3) rfl
         replace hs := hs.front (k := 3) rfl
         replace hs := hs.front (k := 3) rfl
         replace hs := hs.front (k := 3) rfl
         replace hs := hs.front (k := 4) rfl
         exact oN ⟨rfl, rfl, p, e, l, d, s, bG, (E.trans bd), (Eq.trans (fSG (i := 20) rfl rfl) (rfl)), hs, (fun _ => hNz114_px0_9), H, G, (fun _ => (G a5)), A, y, (fun _ => (y a8))⟩
       · rintro L f w ⟨bn, _, bk, bj, bi, bh, bg, bf, a7, a6, be, a5, aZ, aY, bs, br, bq, ba, a9, bp, a8, bo, _, _⟩ hL ⟨p, e, l, d, s, Iq, E, rfl, hs, q, H, G, D, A, y, x⟩
         have hNz114_px0_9 := q bn
         refine asI (fG rfl bn) ?_
         exact oN ⟨rfl, rfl, p, e, l, d, s, Iq, E, fS rfl rfl, hs, (fun h => q h), H, G, D, A, y, x⟩
       rintro L f w hall ⟨p, e, l, d, s, bt, aX, rfl, hs, hNz114_px0_9, _, _, _, _, _, _⟩
       rw [frL_tt _ rfl hall]
       replace hs := hs.eqv (k := 1) rfl (rL_t (hall 20 (nLe rfl)))
       replace hs := hs.eqv (k := 2) rfl (rL_t (hall 20 (nLe rfl)))
       replace hs := hs.eqv (k := 3) rfl (rL_t (hall 20 (nLe rfl)))
       replace hs := hs.eqv (k := 4) rfl (rL_t (hall 20 (nLe rfl)))
       replace hNz114_px0_9 := hNz114_px0_9 (hall 20 (nLe rfl))
       refine sQR <| cR <| mI rfl <| oV (x_geq rfl rfl) rfl <| oN <| sK ?_
       by_cases aE : 0 ≤ C.1
       · rw [if_pos aE] at hm
         refine cIt rfl (dT aE) <| cR <| mS al <| mI rfl <| mI ax <| mI rfl <| oV (x_add rfl rfl) rfl ?_
         have aB := (iS hm).1
         replace hm := (iS hm).2
         have bH := osl_n (k := 0) hs rfl (fun _ => rfl) (by decide)
         refine oI (i := t) sl24 ty3 rfl rfl aB.1 (by have := aB; omega) (osl_some hs (k := 0) rfl (by have := aB; omega)) <| ow_storeT (k := 0) (enc := e64) (xx := w64 (x2 + C.1)) (i := t) (m := (List.replicate U.toNat (0 : Int)).length) (vs := [iN (w64 (x2 + C.1))]) hs rfl rfl rfl ty3 rfl rfl rfl (fun _ => rfl) (by decide) aB.1 (by have := aB.2; simpa using this) ?_
         clear hs; intro w hs
         refine oN <| blockK_n <| sK <| cR <| oV (x_add am rfl) rfl <| mI rfl <| oN ?_
         exact lN ⟨k, Nat.lt_succ_self k, w64 (t + 1), (aa.set t.toNat (-1)).set t.toNat (w64 (x2 + C.1)), C.2.1, C.2.2.1, C.2.2.2.1, C.2.2.2.2.1, C.2.2.2.2.2.1, C.2.2.2.2.2.2.1, C.2.2.2.2.2.2.2.1, C.2.2.2.2.2.2.2.2.1, C.2.2.2.2.2.2.2.2.2, p, e, l, d, s, bt, rfl, ((aq.trans an).trans aX), hm, hs, aj, ay, ax, aw, av, au, ap, al, ao, rfl, hNz114_px0_9⟩
       rw [if_neg aE] at hm
       refine cIf rfl (dF aE) <| cw_skip <| blockK_n <| sK <| cR <| oV (x_add am rfl) rfl <| mI rfl <| oN ?_
       exact lN ⟨k, Nat.lt_succ_self k, w64 (t + 1), aa.set t.toNat (-1), C.2.1, C.2.2.1, C.2.2.2.1, C.2.2.2.2.1, C.2.2.2.2.2.1, C.2.2.2.2.2.2.1, C.2.2.2.2.2.2.2.1, C.2.2.2.2.2.2.2.2.1, C.2.2.2.2.2.2.2.2.2, p, e, l, d, s, bt, rfl, ((aq.trans an).trans aX), hm, hs, aj, ay, ax, aw, av, au, ap, al, ao, rfl, hNz114_px0_9⟩
     rw [if_neg aF] at hm
     refine cIf rfl (dF aF) <| cw_skip <| blockK_n <| sK <| cR <| oV (x_add am rfl) rfl <| mI rfl <| oN ?_
     replace ab := ab.mono an
     exact lN ⟨k, Nat.lt_succ_self k, w64 (t + 1), aa.set t.toNat (-1), u, M, X, B, W, V, Z, K, N, T, Q, R, O, Y, bb, rfl, (aq.trans an), hm, hs, aj, ay, ax, aw, av, au, ap, al, ao, rfl, ab⟩
   rw [if_neg aG] at hm
   refine cIf rfl (dF aG) <| cw_exit <| seqK_x <| loopK_x <| blockK_hit ?_
   obtain rfl := oJ hm
   refine jN ⟨T, Q, R, O, Y, aD, rfl, aq, hs, ap, al, ab⟩
 clear hm hs
 rintro f ds w ⟨T, Q, R, O, Y, bm, rfl, bc, hs, bB, a3, ak⟩
 replace hm := bC
 refine cQ <| cR <| mS a3 <| asS rfl <| oN <| sK <| cw_ret ?_
 have a4 := osl_n (k := 0) hs rfl (fun _ => rfl) (by decide)
 replace hs := hs.eqv (k := 0) rfl (by rw [a4])
 refine rK (rs := [.tmp 12]) (vs := [.slice a2 ag.1.length U.toNat]) (.inr rfl) rfl ⟨(slen (oa := a2) (m := (List.replicate U.toNat (0 : Int)).length) (m' := ag.1.length) (c := U.toNat) rfl a4), trivial⟩ ?_
 obtain rfl := oJ hm
 obtain ⟨bE, aW, bA, hs⟩ := hs.freezeO
 replace ak := ak.mono aW
 exact ⟨bE, a2, U.toNat, T, Q, R, O, Y, (bc.trans aW), hs, rfl, bA, ak⟩
def f65_m (X : Int) (W : Int) (V : Int) (R : List (T2x)) (U : Int) (T : Int) (S : Int) (aj : List (Int × Int)) (K : List Int) (G : List (T4x)) (A : Int) (z : Int) (y : Int) (x : Int) (u : Int) (t : Int) (s : Int) (q : Int) (p : Int) (m : Int) (d : Int) (c : List Int) : Option (Int × Int × Int × Int × Int × Int × (List (Int × Int)) × List Int × (List (T4x))) :=
  (if G.length + ([(A, z, y, x, u, t, s, q, p, m, d, c)] : List (T4x)).length ≤ 1099511627776 then some (X, W, V, U, T, S, aj, K, G ++ ([(A, z, y, x, u, t, s, q, p, m, d, c)] : List (T4x))) else none)
theorem f65_ok (X : Int) (W : Int) (V : Int) (R : List (T2x)) (U : Int) (T : Int) (S : Int) (aj : List (Int × Int)) (K : List Int) (G : List (T4x)) (A : Int) (z : Int) (y : Int) (x : Int) (u : Int) (t : Int) (s : Int) (q : Int) (p : Int) (m : Int) (d : Int) (c : List Int) {r : Int × Int × Int × Int × Int × Int × (List (Int × Int)) × List Int × (List (T4x))} (hm : f65_m X W V R U T S aj K G A z y x u t s q p m d c = some r) {Y : Nat} {Q : Option Addr} {O : Nat} {H : Nat} {N : Option Addr} {M : Nat} {ad : Option Addr} {ac : Nat} {ab : List Value} {C : Option Addr} {B : Nat} {I : Im} {F : List HP} {w : World} (hs : Sat I (blk Y 145 [iN X, iN W, iN V, .slice Q R.length O, iN U, iN T, iN S, .map (some H), .slice N K.length M, .slice ad G.length ac] :: mq H vi64 aj :: osl 3 1 N K.length M (K.flatMap e64) :: osl 168 12 ad G.length ac ab :: F) w) (ax : SN42 I Q R.length O R) (al : NN168 I G ab) (ah : Rs I 1 C c.length B (c.flatMap e64)) :
    CV P 65 [pQ Y 0, .agg (cL13 A z y x u t s q p m d C c.length B).toArray] w fun v w' => ∃ (J : Im) (ao_px0_8 : Option Addr) (co_px0_8 : Nat) (ao_px0_9 : Option Addr) (co_px0_9 : Nat) (so_px0_9 : List Value), Im.le I J ∧ Sat J (blk Y 145 [iN r.1, iN r.2.1, iN r.2.2.1, .slice Q R.length O, iN r.2.2.2.1, iN r.2.2.2.2.1, iN r.2.2.2.2.2.1, .map (some H), .slice ao_px0_8 r.2.2.2.2.2.2.2.1.length co_px0_8, .slice ao_px0_9 r.2.2.2.2.2.2.2.2.length co_px0_9] :: mq H vi64 r.2.2.2.2.2.2.1 :: osl 3 1 ao_px0_8 r.2.2.2.2.2.2.2.1.length co_px0_8 (r.2.2.2.2.2.2.2.1.flatMap e64) :: osl 168 12 ao_px0_9 r.2.2.2.2.2.2.2.2.length co_px0_9 so_px0_9 :: F) w' ∧ v = .tuple #[] ∧ NN168 J r.2.2.2.2.2.2.2.2 so_px0_9 := by
 unfold f65_m at hm
 refine cv_of (n := 14) Proofs.Tryz.func65 rfl rfl (nLe rfl) <| cQ <| cR <| oB (v := .agg (cL13 A z y x u t s q p m d C c.length B).toArray) (cs := (cL13 A z y x u t s q p m d C c.length B)) hs rfl rfl ?_
 clear hs; intro b1 w hs
 refine oN <| sK ?_
 have ay := (iS hm).1
 replace hm := (iS hm).2
 refine cD mixed rfl (fun f0 L f w => ∃ (a5 : Option Addr) (a8 : Option Addr) (Z : Nat) (Iq : Im), Im.le I Iq ∧ f = frL [(4, 0, pQ Y 0), (5, 1, pQ Y 0), (6, 2, pQ Y 0), (7, 3, pQ Y 9), (8, 4, .slice ad G.length ac), (9, 5, .agg (cL13 A z y x u t s q p m d C c.length B).toArray), (10, 6, .slice a5 1 1), (11, 7, .slice a8 ((G ++ ([(A, z, y, x, u, t, s, q, p, m, d, c)] : List (T4x))).length) Z), (12, 8, pQ Y 0), (13, 9, pQ Y 9)] L f0 ∧ Sat Iq (blk b1 168 (cL13 A z y x u t s q p m d C c.length B) :: rL [(10, blk Y 145 [iN X, iN W, iN V, .slice Q R.length O, iN U, iN T, iN S, .map (some H), .slice N K.length M, .slice a8 ((G ++ ([(A, z, y, x, u, t, s, q, p, m, d, c)] : List (T4x))).length) Z])] (blk Y 145 [iN X, iN W, iN V, .slice Q R.length O, iN U, iN T, iN S, .map (some H), .slice N K.length M, .slice ad G.length ac]) L :: mq H vi64 aj :: osl 3 1 N K.length M (K.flatMap e64) :: rL [(7, osl 168 12 a8 (G ++ ([(A, z, y, x, u, t, s, q, p, m, d, c)] : List (T4x))).length Z (ab ++ ((cL13 A z y x u t s q p m d C c.length B) : List Value)))] (osl 168 12 ad G.length ac ab) L :: F) w ∧ (L 6 = true → Rs Iq 12 a5 1 1 (cL13 A z y x u t s q p m d C c.length B)) ∧ (L 7 = true → NN168 Iq (G ++ ([(A, z, y, x, u, t, s, q, p, m, d, c)] : List (T4x))) (ab ++ ((cL13 A z y x u t s q p m d C c.length B) : List Value))) ∧ (L 10 = true → L 4 = true) ∧ (L 10 = true → L 7 = true)) ⟨none, none, 0, I, iR, (frL_ff _).symm, hs.drew, (fun h => by cases h), (fun h => by cases h), (fun h => by cases h), (fun h => by cases h)⟩ ⟨?_, ?_, ?_, ?_, ?_, ?_, ?_, ?_, ?_, ?_, ?_, trivial⟩ ?_
 all_goals clear hs
 · rintro L f w _ hL ⟨a5, a8, Z, Iq, E, rfl, hs, D, l, j, e⟩
   refine mP rfl ?_
   exact oN ⟨rfl, rfl, a5, a8, Z, Iq, E, fS rfl rfl, hs, (fun h => D h), (fun h => l h), j, e⟩
 · rintro L f w _ hL ⟨a5, a8, Z, Iq, E, rfl, hs, D, l, j, e⟩
   refine mP rfl ?_
   exact oN ⟨rfl, rfl, a5, a8, Z, Iq, E, fS rfl rfl, hs, (fun h => D h), (fun h => l h), j, e⟩
 · rintro L f w ⟨ar, _⟩ hL ⟨a5, a8, Z, Iq, E, rfl, hs, D, l, j, e⟩
   refine oV (x_nilCheck (fG rfl ar)) rfl ?_
   exact oN ⟨rfl, rfl, a5, a8, Z, Iq, E, fS rfl rfl, hs, (fun h => D h), (fun h => l h), j, e⟩
 · rintro L f w ⟨aq, _⟩ hL ⟨a5, a8, Z, Iq, E, rfl, hs, D, l, j, e⟩
   refine oF (b := Y) (o := 0) fl145_4 (fG rfl aq) ?_
   exact oN ⟨rfl, rfl, a5, a8, Z, Iq, E, fS rfl rfl, hs, (fun h => D h), (fun h => l h), j, e⟩
 · rintro L f w ⟨ap, _⟩ hL ⟨a5, a8, Z, Iq, E, rfl, hs, D, l, j, e⟩
   replace hs := hs.eqv (k := 1) rfl ((rL_f (show L 10 = false from pF j hL) (rL_n)))
   refine ld1 (k := 1) hs rfl (fG rfl ap) ty79 rfl ?_
   replace hs := hs.eqv (k := 1) rfl (Eq.symm (a := rL [(10, blk Y 145 [iN X, iN W, iN V, .slice Q R.length O, iN U, iN T, iN S, .map (some H), .slice N K.length M, .slice a8 ((G ++ ([(A, z, y, x, u, t, s, q, p, m, d, c)] : List (T4x))).length) Z])] (blk Y 145 [iN X, iN W, iN V, .slice Q R.length O, iN U, iN T, iN S, .map (some H), .slice N K.length M, .slice ad G.length ac]) (setL L 4)) (((rL_f (L := setL L 4) (show L 10 = false from pF j hL) (rL_n)))))
   exact oN ⟨rfl, rfl, a5, a8, Z, Iq, E, fS rfl rfl, hs, (fun h => D h), (fun h => l h), (fun _ => rfl), e⟩
 · rintro L f w _ hL ⟨a5, a8, Z, Iq, E, rfl, hs, D, l, j, e⟩
   refine oL (k := 0) (vs := (cL13 A z y x u t s q p m d C c.length B)) (v := .agg (cL13 A z y x u t s q p m d C c.length B).toArray) hs rfl rfl ty168 rfl rfl rfl ?_
   exact oN ⟨rfl, rfl, a5, a8, Z, Iq, E, fS rfl rfl, hs, (fun h => D h), (fun h => l h), j, e⟩
 · rintro L f w ⟨ao, _⟩ hL ⟨a5, a8, Z, Iq, E, rfl, hs, D, l, j, e⟩
   refine ow_buildSlice (vp := [(0, .agg (cL13 A z y x u t s q p m d C c.length B).toArray)]) (cs := (cL13 A z y x u t s q p m d C c.length B)) hs sl79 ty168 rfl ⟨rfl, (fG rfl ao), trivial⟩ (by decide) rfl (by decide) ?_
   clear hs; intro a5 J3 w au hs ai
   exact oN ⟨rfl, rfl, a5, a8, Z, J3, (E.trans au), (Eq.trans (fSG (i := 6) rfl rfl) (rfl)), hs, (fun _ => ai), (fun h => (l h).mono au), j, e⟩
 · rintro L f w ⟨an, ak, _⟩ hL ⟨a5, a8, Z, Iq, E, rfl, hs, D, l, j, e⟩
   have ai := D ak
   replace hs := hs.eqv (k := 4) rfl ((rL_f hL (rL_n)))
   replace hs := hs.eqv (k := 1) rfl ((rL_f (show L 10 = false from pF e hL) (rfl)))
   refine ow_appendN (k := 4) (mm := (G ++ ([(A, z, y, x, u, t, s, q, p, m, d, c)] : List (T4x))).length) hs rfl sl79 ty168 el168 rfl (fG rfl an) (fG rfl ak) ai rfl ay (by decide) List.length_append ?_
   clear hs; intro a8 Z w hs
   replace al := al.mono E; replace ah := ah.mono E
   have ae : NN168 Iq (G ++ ([(A, z, y, x, u, t, s, q, p, m, d, c)] : List (T4x))) (ab ++ ((cL13 A z y x u t s q p m d C c.length B) : List Value)) := NL.append al (NL.one ⟨C, B, rfl, ah⟩)
   replace hs := hs.eqv (k := 1) rfl (Eq.symm (a := rL [(10, blk Y 145 [iN X, iN W, iN V, .slice Q R.length O, iN U, iN T, iN S, .map (some H), .slice N K.length M, .slice a8 ((G ++ ([(A, z, y, x, u, t, s, q, p, m, d, c)] : List (T4x))).length) Z])] (blk Y 145 [iN X, iN W, iN V, .slice Q R.length O, iN U, iN T, iN S, .map (some H), .slice N K.length M, .slice ad G.length ac]) (setL L 7)) (((rL_f (L := setL L 7) (show L 10 = false from pF e hL) (rfl)))))
   exact oN ⟨rfl, rfl, a5, a8, Z, Iq, E, (Eq.trans (fSG (i := 7) rfl rfl) (rfl)), hs, (fun h => D h), (fun _ => ae), j, (fun _ => rfl)⟩
 · rintro L f w ⟨aw, _, ar, aq, ap, an, ao, ak, am, _⟩ hL ⟨a5, a8, Z, Iq, E, rfl, hs, D, l, j, e⟩
   have ai := D ak
   have ae := l am
   refine oV (x_nilCheck (fG rfl aw)) rfl ?_
   exact oN ⟨rfl, rfl, a5, a8, Z, Iq, E, fS rfl rfl, hs, (fun h => D h), (fun h => l h), j, e⟩
 · rintro L f w ⟨aA, aw, ar, aq, ap, an, ao, ak, am, _⟩ hL ⟨a5, a8, Z, Iq, E, rfl, hs, D, l, j, e⟩
   have ai := D ak
   have ae := l am
   refine oF (b := Y) (o := 0) fl145_4 (fG rfl aA) ?_
   exact oN ⟨rfl, rfl, a5, a8, Z, Iq, E, fS rfl rfl, hs, (fun h => D h), (fun h => l h), j, e⟩
 · rintro L f w ⟨az, am, _, aw, ar, aq, ap, an, ao, ak, _, _⟩ hL ⟨a5, a8, Z, Iq, E, rfl, hs, D, l, j, e⟩
   have ai := D ak
   have ae := l am
   replace hs := hs.eqv (k := 1) rfl ((rL_f hL (rL_n)))
   refine oS (k := 1) (vs := [.slice a8 ((G ++ ([(A, z, y, x, u, t, s, q, p, m, d, c)] : List (T4x))).length) Z]) (cs' := [iN X, iN W, iN V, .slice Q R.length O, iN U, iN T, iN S, .map (some H), .slice N K.length M, .slice a8 ((G ++ ([(A, z, y, x, u, t, s, q, p, m, d, c)] : List (T4x))).length) Z]) hs rfl (fG rfl az) (fG rfl am) ty79 rfl rfl (nLe rfl) rfl rfl ?_
   clear hs; intro w hs
   exact oN ⟨rfl, rfl, a5, a8, Z, Iq, E, frL_no rfl, hs, (fun h => D h), (fun h => l h), (fun _ => an), (fun _ => am)⟩
 rintro L f w hall ⟨a5, a8, Z, aB, av, rfl, hs, ai, ae, _, _⟩
 rw [frL_tt _ rfl hall]
 replace hs := hs.eqv (k := 1) rfl (rL_t (hall 10 (nLe rfl)))
 replace hs := hs.eqv (k := 4) rfl (rL_t (hall 7 (nLe rfl)))
 replace ai := ai (hall 6 (nLe rfl))
 replace ae := ae (hall 7 (nLe rfl))
 refine rK (rs := []) (vs := []) (.inl rfl) rfl trivial ?_
 obtain rfl := oJ hm
 replace hs := hs.erase 0
 exact ⟨aB, N, M, a8, Z, ab ++ ((cL13 A z y x u t s q p m d C c.length B) : List Value), av, hs, rfl, ae⟩
def f106_m (x0 : Int) (x1 : Int) (x2 : Int) (x3 : Int) (x4 : Int) (x5 : Int) (an : Int) (am : Int) (al : Int) (T : List (T2x)) (ak : Int) (aj : Int) (ai : Int) (Z : List (Int × Int)) (X : List Int) (Y : List (T4x)) (au : Int) : Option (Int × Int × Int × Int × Int × Int × (List (Int × Int)) × List Int × (List (T4x))) :=
  ((f66_m an am al T ak aj ai Z X Y au (getM Z x1 0) x2 x3 x5).bind fun r1 => ((f65_m r1.2.1 r1.2.2.1 r1.2.2.2.1 T r1.2.2.2.2.1 r1.2.2.2.2.2.1 r1.2.2.2.2.2.2.1 r1.2.2.2.2.2.2.2.1 r1.2.2.2.2.2.2.2.2.1 r1.2.2.2.2.2.2.2.2.2 1 x0 0 0 x4 0 0 0 0 0 0 r1.1).bind fun r6 => some (r6.1, r6.2.1, r6.2.2.1, r6.2.2.2.1, r6.2.2.2.2.1, r6.2.2.2.2.2.1, r6.2.2.2.2.2.2.1, r6.2.2.2.2.2.2.2.1, r6.2.2.2.2.2.2.2.2)))
theorem f106_ok (x0 : Int) (x1 : Int) (x2 : Int) (x3 : Int) (x4 : Int) (x5 : Int) (an : Int) (am : Int) (al : Int) (T : List (T2x)) (ak : Int) (aj : Int) (ai : Int) (Z : List (Int × Int)) (X : List Int) (Y : List (T4x)) (au : Int) {r : Int × Int × Int × Int × Int × Int × (List (Int × Int)) × List Int × (List (T4x))} (hm : f106_m x0 x1 x2 x3 x4 x5 an am al T ak aj ai Z X Y au = some r) {aM : Nat} {U : Nat} {W : Option Addr} {V : Nat} {R : Nat} {ae : Option Addr} {ac : Nat} {ad : Option Addr} {ab : Nat} {ap : List Value} {aL : Nat} {I : Im} {F : List HP} {w : World} (hs : Sat I (blk U 145 [iN an, iN am, iN al, .slice W T.length V, iN ak, iN aj, iN ai, .map (some R), .slice ae X.length ac, .slice ad Y.length ab] :: mq R vi64 Z :: osl 3 1 ae X.length ac (X.flatMap e64) :: osl 168 12 ad Y.length ab ap :: F) w) (ah : SN42 I W T.length V T) (ar : NN168 I Y ap) (aq : Ib I aM 142 [pQ U 0]) (aw : Ib I aL 3 [iN au]) :
    CV P 106 [iN x0, iN x1, iN x2, iN x3, iN x4, .int .u8 x5, pQ aM 0, pQ aL 0] w fun v w' => ∃ (J : Im) (ao_px6_0_8 : Option Addr) (co_px6_0_8 : Nat) (ao_px6_0_9 : Option Addr) (co_px6_0_9 : Nat) (so_px6_0_9 : List Value), Im.le I J ∧ Sat J (blk U 145 [iN r.1, iN r.2.1, iN r.2.2.1, .slice W T.length V, iN r.2.2.2.1, iN r.2.2.2.2.1, iN r.2.2.2.2.2.1, .map (some R), .slice ao_px6_0_8 r.2.2.2.2.2.2.2.1.length co_px6_0_8, .slice ao_px6_0_9 r.2.2.2.2.2.2.2.2.length co_px6_0_9] :: mq R vi64 r.2.2.2.2.2.2.1 :: osl 3 1 ao_px6_0_8 r.2.2.2.2.2.2.2.1.length co_px6_0_8 (r.2.2.2.2.2.2.2.1.flatMap e64) :: osl 168 12 ao_px6_0_9 r.2.2.2.2.2.2.2.2.length co_px6_0_9 so_px6_0_9 :: F) w' ∧ v = .tuple #[] ∧ NN168 J r.2.2.2.2.2.2.2.2 so_px6_0_9 := by
 unfold f106_m at hm
 refine cv_of (n := 31) Proofs.Tryz.func106 rfl rfl (nLe rfl) ?_
 obtain ⟨r1, aO, hm⟩ := bS hm
 obtain ⟨r6, aN, hm⟩ := bS hm
 refine cD mixed rfl (fun f0 L f w => ∃ (K : Option Addr) (H : Nat) (y : Option Addr) (t : Nat) (x : Option Addr) (s : Nat) (z : List Value) (j : Option Addr) (d : Nat) (e : Option Addr) (c : Nat) (l : List Value) (Iq : Im), Im.le I Iq ∧ f = frL [(14, 0, pQ U 0), (15, 1, iN x0), (16, 2, iN x4), (17, 3, pQ U 0), (18, 4, iN au), (19, 5, pQ U 0), (20, 6, pQ U 0), (21, 7, pQ U 7), (22, 8, .map (some R)), (23, 9, iN x1), (24, 10, iN (getM Z x1 0)), (25, 11, iN x2), (26, 12, iN x3), (27, 13, .int .u8 x5), (28, 14, .slice K r1.1.length H), (29, 15, .agg (cL13 1 x0 0 0 x4 0 0 0 0 0 0 K r1.1.length H).toArray), (30, 16, .tuple #[])] L f0 ∧ Sat Iq (rL [(16, blk U 145 [iN r6.1, iN r6.2.1, iN r6.2.2.1, .slice W T.length V, iN r6.2.2.2.1, iN r6.2.2.2.2.1, iN r6.2.2.2.2.2.1, .map (some R), .slice j r6.2.2.2.2.2.2.2.1.length d, .slice e r6.2.2.2.2.2.2.2.2.length c]), (14, blk U 145 [iN r1.2.1, iN r1.2.2.1, iN r1.2.2.2.1, .slice W T.length V, iN r1.2.2.2.2.1, iN r1.2.2.2.2.2.1, iN r1.2.2.2.2.2.2.1, .map (some R), .slice y r1.2.2.2.2.2.2.2.2.1.length t, .slice x r1.2.2.2.2.2.2.2.2.2.length s])] (blk U 145 [iN an, iN am, iN al, .slice W T.length V, iN ak, iN aj, iN ai, .map (some R), .slice ae X.length ac, .slice ad Y.length ab]) L :: rL [(16, mq R vi64 r6.2.2.2.2.2.2.1), (14, mq R vi64 r1.2.2.2.2.2.2.2.1)] (mq R vi64 Z) L :: rL [(16, osl 3 1 j r6.2.2.2.2.2.2.2.1.length d (r6.2.2.2.2.2.2.2.1.flatMap e64)), (14, osl 3 1 y r1.2.2.2.2.2.2.2.2.1.length t (r1.2.2.2.2.2.2.2.2.1.flatMap e64))] (osl 3 1 ae X.length ac (X.flatMap e64)) L :: rL [(16, osl 168 12 e r6.2.2.2.2.2.2.2.2.length c l), (14, osl 168 12 x r1.2.2.2.2.2.2.2.2.2.length s z)] (osl 168 12 ad Y.length ab ap) L :: F) w ∧ (L 14 = true → Rs Iq 1 K r1.1.length H (r1.1.flatMap e64)) ∧ (L 14 = true → NN168 Iq r1.2.2.2.2.2.2.2.2.2 z) ∧ (L 16 = true → NN168 Iq r6.2.2.2.2.2.2.2.2 l) ∧ (L 10 = true → L 8 = true) ∧ (L 14 = true → L 8 = true) ∧ (L 15 = true → L 8 = true) ∧ (L 16 = true → L 8 = true) ∧ (L 14 = true → L 10 = true) ∧ (L 15 = true → L 10 = true) ∧ (L 16 = true → L 10 = true) ∧ (L 16 = true → L 14 = true) ∧ (L 15 = true → L 14 = true)) ⟨none, 0, none, 0, none, 0, [], none, 0, none, 0, [], I, iR, (frL_ff _).symm, hs.drew, (fun h => by cases h), (fun h => by cases h), (fun h => by cases h), (fun h => by cases h), (fun h => by cases h), (fun h => by cases h), (fun h => by cases h), (fun h => by cases h), (fun h => by cases h), (fun h => by cases h), (fun h => by cases h), (fun h => by cases h)⟩ ⟨?_, ?_, ?_, ?_, ?_, ?_, ?_, ?_, ?_, ?_, ?_, ?_, ?_, ?_, ?_, ?_, ?_, trivial⟩ ?_
 all_goals clear hs
 · rintro L f w _ hL ⟨K, H, y, t, x, s, z, j, d, e, c, l, Iq, S, rfl, hs, C, p, m, Q, M, O, N, B, G, D, A, E⟩
   replace aq := aq.mono S
   refine ld1I hs aq rfl ty142 rfl ?_
   exact oN ⟨rfl, rfl, K, H, y, t, x, s, z, j, d, e, c, l, Iq, S, fS rfl rfl, hs, (fun h => C h), (fun h => p h), (fun h => m h), Q, M, O, N, B, G, D, A, E⟩
 · rintro L f w _ hL ⟨K, H, y, t, x, s, z, j, d, e, c, l, Iq, S, rfl, hs, C, p, m, Q, M, O, N, B, G, D, A, E⟩
   refine mI rfl ?_
   exact oN ⟨rfl, rfl, K, H, y, t, x, s, z, j, d, e, c, l, Iq, S, fS rfl rfl, hs, (fun h => C h), (fun h => p h), (fun h => m h), Q, M, O, N, B, G, D, A, E⟩
 · rintro L f w _ hL ⟨K, H, y, t, x, s, z, j, d, e, c, l, Iq, S, rfl, hs, C, p, m, Q, M, O, N, B, G, D, A, E⟩
   refine mI rfl ?_
   exact oN ⟨rfl, rfl, K, H, y, t, x, s, z, j, d, e, c, l, Iq, S, fS rfl rfl, hs, (fun h => C h), (fun h => p h), (fun h => m h), Q, M, O, N, B, G, D, A, E⟩
 · rintro L f w _ hL ⟨K, H, y, t, x, s, z, j, d, e, c, l, Iq, S, rfl, hs, C, p, m, Q, M, O, N, B, G, D, A, E⟩
   replace aq := aq.mono S
   refine ld1I hs aq rfl ty142 rfl ?_
   exact oN ⟨rfl, rfl, K, H, y, t, x, s, z, j, d, e, c, l, Iq, S, fS rfl rfl, hs, (fun h => C h), (fun h => p h), (fun h => m h), Q, M, O, N, B, G, D, A, E⟩
 · rintro L f w _ hL ⟨K, H, y, t, x, s, z, j, d, e, c, l, Iq, S, rfl, hs, C, p, m, Q, M, O, N, B, G, D, A, E⟩
   replace aw := aw.mono S
   refine ld1I hs aw rfl ty3 rfl ?_
   exact oN ⟨rfl, rfl, K, H, y, t, x, s, z, j, d, e, c, l, Iq, S, fS rfl rfl, hs, (fun h => C h), (fun h => p h), (fun h => m h), Q, M, O, N, B, G, D, A, E⟩
 · rintro L f w _ hL ⟨K, H, y, t, x, s, z, j, d, e, c, l, Iq, S, rfl, hs, C, p, m, Q, M, O, N, B, G, D, A, E⟩
   replace aq := aq.mono S
   refine ld1I hs aq rfl ty142 rfl ?_
   exact oN ⟨rfl, rfl, K, H, y, t, x, s, z, j, d, e, c, l, Iq, S, fS rfl rfl, hs, (fun h => C h), (fun h => p h), (fun h => m h), Q, M, O, N, B, G, D, A, E⟩
 · rintro L f w ⟨aS, _⟩ hL ⟨K, H, y, t, x, s, z, j, d, e, c, l, Iq, S, rfl, hs, C, p, m, Q, M, O, N, B, G, D, A, E⟩
   refine oV (x_nilCheck (fG rfl aS)) rfl ?_
   exact oN ⟨rfl, rfl, K, H, y, t, x, s, z, j, d, e, c, l, Iq, S, fS rfl rfl, hs, (fun h => C h), (fun h => p h), (fun h => m h), Q, M, O, N, B, G, D, A, E⟩
 · rintro L f w ⟨aR, _⟩ hL ⟨K, H, y, t, x, s, z, j, d, e, c, l, Iq, S, rfl, hs, C, p, m, Q, M, O, N, B, G, D, A, E⟩
   refine oF (b := U) (o := 0) fl145_2 (fG rfl aR) ?_
   exact oN ⟨rfl, rfl, K, H, y, t, x, s, z, j, d, e, c, l, Iq, S, fS rfl rfl, hs, (fun h => C h), (fun h => p h), (fun h => m h), Q, M, O, N, B, G, D, A, E⟩
 · rintro L f w ⟨aQ, _⟩ hL ⟨K, H, y, t, x, s, z, j, d, e, c, l, Iq, S, rfl, hs, C, p, m, Q, M, O, N, B, G, D, A, E⟩
   replace hs := hs.eqv (k := 0) rfl ((rL_f (show L 16 = false from pF N hL) ((rL_f (show L 14 = false from pF M hL) (rL_n)))))
   refine ld1 (k := 0) hs rfl (fG rfl aQ) ty143 rfl ?_
   replace hs := hs.eqv (k := 0) rfl (Eq.symm (a := rL [(16, blk U 145 [iN r6.1, iN r6.2.1, iN r6.2.2.1, .slice W T.length V, iN r6.2.2.2.1, iN r6.2.2.2.2.1, iN r6.2.2.2.2.2.1, .map (some R), .slice j r6.2.2.2.2.2.2.2.1.length d, .slice e r6.2.2.2.2.2.2.2.2.length c]), (14, blk U 145 [iN r1.2.1, iN r1.2.2.1, iN r1.2.2.2.1, .slice W T.length V, iN r1.2.2.2.2.1, iN r1.2.2.2.2.2.1, iN r1.2.2.2.2.2.2.1, .map (some R), .slice y r1.2.2.2.2.2.2.2.2.1.length t, .slice x r1.2.2.2.2.2.2.2.2.2.length s])] (blk U 145 [iN an, iN am, iN al, .slice W T.length V, iN ak, iN aj, iN ai, .map (some R), .slice ae X.length ac, .slice ad Y.length ab]) (setL L 8)) (((rL_f (L := setL L 8) (show L 16 = false from pF N hL) ((rL_f (L := setL L 8) (show L 14 = false from pF M hL) (rL_n)))))))
   exact oN ⟨rfl, rfl, K, H, y, t, x, s, z, j, d, e, c, l, Iq, S, fS rfl rfl, hs, (fun h => C h), (fun h => p h), (fun h => m h), (fun _ => rfl), (fun _ => rfl), (fun _ => rfl), (fun _ => rfl), B, G, D, A, E⟩
 · rintro L f w _ hL ⟨K, H, y, t, x, s, z, j, d, e, c, l, Iq, S, rfl, hs, C, p, m, Q, M, O, N, B, G, D, A, E⟩
   refine mI rfl ?_
   exact oN ⟨rfl, rfl, K, H, y, t, x, s, z, j, d, e, c, l, Iq, S, fS rfl rfl, hs, (fun h => C h), (fun h => p h), (fun h => m h), Q, M, O, N, B, G, D, A, E⟩
 · rintro L f w ⟨aH, aP, _⟩ hL ⟨K, H, y, t, x, s, z, j, d, e, c, l, Iq, S, rfl, hs, C, p, m, Q, M, O, N, B, G, D, A, E⟩
   replace hs := hs.eqv (k := 1) rfl ((rL_f (show L 16 = false from pF D hL) ((rL_f (show L 14 = false from pF B hL) (rL_n)))))
   refine ow_lookupQ (q := 1) (k := x1) (zv := 0) (v := iN (getM Z x1 0)) mt143 mz143 hs rfl (fG rfl aH) (fG rfl aP) rfl ?_
   replace hs := hs.eqv (k := 1) rfl (Eq.symm (a := rL [(16, mq R vi64 r6.2.2.2.2.2.2.1), (14, mq R vi64 r1.2.2.2.2.2.2.2.1)] (mq R vi64 Z) (setL L 10)) (((rL_f (L := setL L 10) (show L 16 = false from pF D hL) ((rL_f (L := setL L 10) (show L 14 = false from pF B hL) (rL_n)))))))
   exact oN ⟨rfl, rfl, K, H, y, t, x, s, z, j, d, e, c, l, Iq, S, fS rfl rfl, hs, (fun h => C h), (fun h => p h), (fun h => m h), (fun _ => aH), M, O, N, (fun _ => rfl), (fun _ => rfl), (fun _ => rfl), A, E⟩
 · rintro L f w _ hL ⟨K, H, y, t, x, s, z, j, d, e, c, l, Iq, S, rfl, hs, C, p, m, Q, M, O, N, B, G, D, A, E⟩
   refine mI rfl ?_
   exact oN ⟨rfl, rfl, K, H, y, t, x, s, z, j, d, e, c, l, Iq, S, fS rfl rfl, hs, (fun h => C h), (fun h => p h), (fun h => m h), Q, M, O, N, B, G, D, A, E⟩
 · rintro L f w _ hL ⟨K, H, y, t, x, s, z, j, d, e, c, l, Iq, S, rfl, hs, C, p, m, Q, M, O, N, B, G, D, A, E⟩
   refine mI rfl ?_
   exact oN ⟨rfl, rfl, K, H, y, t, x, s, z, j, d, e, c, l, Iq, S, fS rfl rfl, hs, (fun h => C h), (fun h => p h), (fun h => m h), Q, M, O, N, B, G, D, A, E⟩
 · rintro L f w _ hL ⟨K, H, y, t, x, s, z, j, d, e, c, l, Iq, S, rfl, hs, C, p, m, Q, M, O, N, B, G, D, A, E⟩
   refine mI rfl ?_
   exact oN ⟨rfl, rfl, K, H, y, t, x, s, z, j, d, e, c, l, Iq, S, fS rfl rfl, hs, (fun h => C h), (fun h => p h), (fun h => m h), Q, M, O, N, B, G, D, A, E⟩
 · rintro L f w ⟨aU, aT, ay, aK, aJ, aI, _⟩ hL ⟨K, H, y, t, x, s, z, j, d, e, c, l, Iq, S, rfl, hs, C, p, m, Q, M, O, N, B, G, D, A, E⟩
   replace hs := hs.eqv (k := 0) rfl ((rL_f (show L 16 = false from pF A hL) ((rL_f hL (rL_n)))))
   replace hs := hs.eqv (k := 1) rfl ((rL_f (show L 16 = false from pF A hL) ((rL_f hL (rL_n)))))
   replace hs := hs.eqv (k := 2) rfl ((rL_f (show L 16 = false from pF A hL) ((rL_f hL (rL_n)))))
   replace hs := hs.eqv (k := 3) rfl ((rL_f (show L 16 = false from pF A hL) ((rL_f hL (rL_n)))))
   replace ah := ah.mono S; replace ar := ar.mono S
   refine oC (fi := []) (vs := [pQ U 0, iN au, iN (getM Z x1 0), iN x2, iN x3, .int .u8 x5]) (ca := []) rfl ⟨(fG rfl aU), (fG rfl aT), (fG rfl ay), (fG rfl aK), (fG rfl aJ), (fG rfl aI), trivial⟩ en66 (f66_ok _ _ _ _ _ _ _ _ _ _ _ _ _ _ _ aO hs ah ar) ?_
   clear hs; rintro _ w ⟨J3, K, H, y, t, x, s, z, aC, hs, rfl, hRz5_0, hNz5_px6_0_9⟩
   replace hs := hs.eqv (k := 0) rfl (Eq.symm (a := rL [(16, blk U 145 [iN r6.1, iN r6.2.1, iN r6.2.2.1, .slice W T.length V, iN r6.2.2.2.1, iN r6.2.2.2.2.1, iN r6.2.2.2.2.2.1, .map (some R), .slice j r6.2.2.2.2.2.2.2.1.length d, .slice e r6.2.2.2.2.2.2.2.2.length c]), (14, blk U 145 [iN r1.2.1, iN r1.2.2.1, iN r1.2.2.2.1, .slice W T.length V, iN r1.2.2.2.2.1, iN r1.2.2.2.2.2.1, iN r1.2.2.2.2.2.2.1, .map (some R), .slice y r1.2.2.2.2.2.2.2.2.1.length t, .slice x r1.2.2.2.2.2.2.2.2.2.length s])] (blk U 145 [iN an, iN am, iN al, .slice W T.length V, iN ak, iN aj, iN ai, .map (some R), .slice ae X.length ac, .slice ad Y.length ab]) (setL L 14)) (((rL_f (L := setL L 14) (show L 16 = false from pF A hL) (rL_t (L := setL L 14) rfl)))))
   replace hs := hs.eqv (k := 1) rfl (Eq.symm (a := rL [(16, mq R vi64 r6.2.2.2.2.2.2.1), (14, mq R vi64 r1.2.2.2.2.2.2.2.1)] (mq R vi64 Z) (setL L 14)) (((rL_f (L := setL L 14) (show L 16 = false from pF A hL) (rL_t (L := setL L 14) rfl)))))
   replace hs := hs.eqv (k := 2) rfl (Eq.symm (a := rL [(16, osl 3 1 j r6.2.2.2.2.2.2.2.1.length d (r6.2.2.2.2.2.2.2.1.flatMap e64)), (14, osl 3 1 y r1.2.2.2.2.2.2.2.2.1.length t (r1.2.2.2.2.2.2.2.2.1.flatMap e64))] (osl 3 1 ae X.length ac (X.flatMap e64)) (setL L 14)) (((rL_f (L := setL L 14) (show L 16 = false from pF A hL) (rL_t (L := setL L 14) rfl)))))
   replace hs := hs.eqv (k := 3) rfl (Eq.symm (a := rL [(16, osl 168 12 e r6.2.2.2.2.2.2.2.2.length c l), (14, osl 168 12 x r1.2.2.2.2.2.2.2.2.2.length s z)] (osl 168 12 ad Y.length ab ap) (setL L 14)) (((rL_f (L := setL L 14) (show L 16 = false from pF A hL) (rL_t (L := setL L 14) rfl)))))
   exact oN ⟨rfl, rfl, K, H, y, t, x, s, z, j, d, e, c, l, J3, (S.trans aC), (Eq.trans (fSG (i := 14) rfl rfl) (Eq.trans (fD (u := undef) (i := 15) (v := .agg (cL13 1 x0 0 0 x4 0 0 0 0 0 0 K r1.1.length H).toArray) (L := setL L 14) (show L 15 = false from pF E hL)) (rfl))), hs, (fun _ => hRz5_0), (fun _ => hNz5_px6_0_9), (fun h => (m h).mono aC), Q, (fun _ => (Q ay)), O, N, (fun _ => ay), G, D, (fun _ => rfl), (fun _ => rfl)⟩
 · rintro L f w ⟨aW, aV, ag, _⟩ hL ⟨K, H, y, t, x, s, z, j, d, e, c, l, Iq, S, rfl, hs, C, p, m, Q, M, O, N, B, G, D, A, E⟩
   have hRz5_0 := C ag
   have hNz5_px6_0_9 := p ag
   refine oU (vp := [(0, .int .u8 1), (1, iN x0), (4, iN x4), (7, .slice K r1.1.length H)]) (cs := (cL13 1 x0 0 0 x4 0 0 0 0 0 0 K r1.1.length H)) st168 ty168 ⟨rfl, rfl, rfl, (fG rfl aW), rfl, (fG rfl aV), rfl, (fG rfl ag), trivial⟩ rfl ?_
   exact oN ⟨rfl, rfl, K, H, y, t, x, s, z, j, d, e, c, l, Iq, S, fS rfl rfl, hs, (fun h => C h), (fun h => p h), (fun h => m h), Q, M, (fun _ => (M ag)), N, B, (fun _ => (B ag)), D, A, (fun _ => ag)⟩
 · rintro L f w ⟨aX, ax, ag, _⟩ hL ⟨K, H, y, t, x, s, z, j, d, e, c, l, Iq, S, rfl, hs, C, p, m, Q, M, O, N, B, G, D, A, E⟩
   have hRz5_0 := C ag
   have hNz5_px6_0_9 := p ag
   replace hs := hs.eqv (k := 0) rfl ((rL_f hL (rL_t ag)))
   replace hs := hs.eqv (k := 1) rfl ((rL_f hL (rL_t ag)))
   replace hs := hs.eqv (k := 2) rfl ((rL_f hL (rL_t ag)))
   replace hs := hs.eqv (k := 3) rfl ((rL_f hL (rL_t ag)))
   replace ah := ah.mono S
   refine oC (fi := []) (vs := [pQ U 0, .agg (cL13 1 x0 0 0 x4 0 0 0 0 0 0 K r1.1.length H).toArray]) (ca := []) rfl ⟨(fG rfl aX), (fG rfl ax), trivial⟩ en65 (f65_ok _ _ _ _ _ _ _ _ _ _ _ _ _ _ _ _ _ _ _ _ _ _ aN hs ah hNz5_px6_0_9 hRz5_0) ?_
   clear hs; rintro _ w ⟨J8, j, d, e, c, l, av, hs, rfl, hNz10_px6_0_9⟩
   exact oN ⟨rfl, rfl, K, H, y, t, x, s, z, j, d, e, c, l, J8, (S.trans av), (Eq.trans (fSG (i := 16) rfl rfl) (rfl)), hs, (fun h => (C h).mono av), (fun h => (p h).mono av), (fun _ => hNz10_px6_0_9), Q, M, O, (fun _ => (O ax)), B, G, (fun _ => (G ax)), (fun _ => ag), E⟩
 rintro L f w hall ⟨K, H, y, t, x, s, z, j, d, e, c, l, aY, aD, rfl, hs, hRz5_0, hNz5_px6_0_9, hNz10_px6_0_9, _, _, _, _, _, _, _, _, _⟩
 rw [frL_tt _ rfl hall]
 replace hs := hs.eqv (k := 0) rfl (rL_t (hall 16 (nLe rfl)))
 replace hs := hs.eqv (k := 1) rfl (rL_t (hall 16 (nLe rfl)))
 replace hs := hs.eqv (k := 2) rfl (rL_t (hall 16 (nLe rfl)))
 replace hs := hs.eqv (k := 3) rfl (rL_t (hall 16 (nLe rfl)))
 replace hRz5_0 := hRz5_0 (hall 14 (nLe rfl))
 replace hNz5_px6_0_9 := hNz5_px6_0_9 (hall 14 (nLe rfl))
 replace hNz10_px6_0_9 := hNz10_px6_0_9 (hall 16 (nLe rfl))
 refine rK (rs := []) (vs := []) (.inl rfl) rfl trivial ?_
 obtain rfl := oJ hm
 exact ⟨aY, j, d, e, c, l, aD, hs, rfl, hNz10_px6_0_9⟩
def f64_l0 (C : List (T2x)) (E : Int) (c : Int) (A : Int) (j : List Bool) (x2 : Int) (D : Int × Int × Int) : Nat → Bool → Int → Int → Int → Int → Int → Int → Int → (List (Int × Int)) → (List Int) → (List (T4x)) → Option (Int × Int × Int × Int × Int × Int × (List (Int × Int)) × List Int × (List (T4x)))
  | 0, _, _, _, _, _, _, _, _, _, _, _ => none
  | k + 1, G, a, z, y, x, u, t, s, q, e, h => (if a < (j.length : Int) then (if 0 ≤ a ∧ a < (j.length : Int) then (if (!(at' j a)) = true then (f64_l0 C E c A j x2 D k G (w64 (a + 1)) z y x u t s q e h) else (if c ≠ 0 then (if c ≠ 0 then (if G = true then ((f106_m 0 E (w64 (D.1 * (w64 ((Int.tmod a c) - (w64 (Int.tdiv c 2)))))) (w64 (D.1 * (w64 ((w64 (Int.tdiv a c)) - (w64 (Int.tdiv A 2)))))) D.2.1 0 z y x C u t s q e h x2).bind fun al => (f64_l0 C E c A j x2 D k false (w64 (a + 1)) al.1 al.2.1 al.2.2.1 al.2.2.2.1 al.2.2.2.2.1 al.2.2.2.2.2.1 al.2.2.2.2.2.2.1 al.2.2.2.2.2.2.2.1 al.2.2.2.2.2.2.2.2)) else ((f106_m 1 E (w64 (D.1 * (w64 ((Int.tmod a c) - (w64 (Int.tdiv c 2)))))) (w64 (D.1 * (w64 ((w64 (Int.tdiv a c)) - (w64 (Int.tdiv A 2)))))) D.2.1 0 z y x C u t s q e h x2).bind fun ay => ((f65_m ay.1 ay.2.1 ay.2.2.1 C ay.2.2.2.1 ay.2.2.2.2.1 ay.2.2.2.2.2.1 ay.2.2.2.2.2.2.1 ay.2.2.2.2.2.2.2.1 ay.2.2.2.2.2.2.2.2 5 0 0 1 0 0 0 0 0 0 D.2.2 []).bind fun O => (f64_l0 C E c A j x2 D k G (w64 (a + 1)) O.1 O.2.1 O.2.2.1 O.2.2.2.1 O.2.2.2.2.1 O.2.2.2.2.2.1 O.2.2.2.2.2.2.1 O.2.2.2.2.2.2.2.1 O.2.2.2.2.2.2.2.2)))) else none) else none)) else none) else some (z, y, x, u, t, s, q, e, h))
def f64_m (aG : Int) (aF : Int) (aE : Int) (C : List (T2x)) (aD : Int) (aC : Int) (aB : Int) (aA : List (Int × Int)) (ai : List Int) (aq : List (T4x)) (V : Int) (E : Int) (ax : Int) (ac : Int) (ab : Int) (aa : Int) (Z : Int) (Y : Int) (ap : Int) (aO : Int) (au : Int) (af : List Int) (ar : Int) (c : Int) (A : Int) (j : List Bool) (x2 : Int) : Option (Int × Int × Int × Int × Int × Int × (List (Int × Int)) × List Int × (List (T4x))) :=
  (if V = 1 then ((f106_m 0 E 0 0 0 0 aG aF aE C aD aC aB aA ai aq x2).bind fun a1 => ((f65_m a1.1 a1.2.1 a1.2.2.1 C a1.2.2.2.1 a1.2.2.2.2.1 a1.2.2.2.2.2.1 a1.2.2.2.2.2.2.1 a1.2.2.2.2.2.2.2.1 a1.2.2.2.2.2.2.2.2 4 0 0 0 0 ac ab aa Z Y 0 []).bind fun a0 => some (a0.1, a0.2.1, a0.2.2.1, a0.2.2.2.1, a0.2.2.2.2.1, a0.2.2.2.2.2.1, a0.2.2.2.2.2.2.1, a0.2.2.2.2.2.2.2.1, a0.2.2.2.2.2.2.2.2))) else (if V = 2 then ((f106_m 0 E 0 0 0 0 aG aF aE C aD aC aB aA ai aq x2).bind fun aZ => ((f106_m 1 ax 0 0 0 0 aZ.1 aZ.2.1 aZ.2.2.1 C aZ.2.2.2.1 aZ.2.2.2.2.1 aZ.2.2.2.2.2.1 aZ.2.2.2.2.2.2.1 aZ.2.2.2.2.2.2.2.1 aZ.2.2.2.2.2.2.2.2 x2).bind fun aY => ((f65_m aY.1 aY.2.1 aY.2.2.1 C aY.2.2.2.1 aY.2.2.2.2.1 aY.2.2.2.2.2.1 aY.2.2.2.2.2.2.1 aY.2.2.2.2.2.2.2.1 aY.2.2.2.2.2.2.2.2 5 0 0 1 0 0 0 0 0 0 ap []).bind fun aX => some (aX.1, aX.2.1, aX.2.2.1, aX.2.2.2.1, aX.2.2.2.2.1, aX.2.2.2.2.2.1, aX.2.2.2.2.2.2.1, aX.2.2.2.2.2.2.2.1, aX.2.2.2.2.2.2.2.2)))) else (if V = 3 then ((f65_m aG aF aE C aD aC aB aA ai aq 3 0 0 0 0 0 0 0 0 0 0 []).bind fun c5 => none) else ((if V = 4 then some (-1, -2147483648, 4) else some (1, 2147483648, 3)).bind fun (D : Int × Int × Int) => (f64_l0 C E c A j x2 D FUEL true 0 aG aF aE aD aC aB aA ai aq)))))
theorem f64_ok (aG : Int) (aF : Int) (aE : Int) (C : List (T2x)) (aD : Int) (aC : Int) (aB : Int) (aA : List (Int × Int)) (ai : List Int) (aq : List (T4x)) (V : Int) (E : Int) (ax : Int) (ac : Int) (ab : Int) (aa : Int) (Z : Int) (Y : Int) (ap : Int) (aO : Int) (au : Int) (af : List Int) (ar : Int) (c : Int) (A : Int) (j : List Bool) (x2 : Int) {r : Int × Int × Int × Int × Int × Int × (List (Int × Int)) × List Int × (List (T4x))} (hm : f64_m aG aF aE C aD aC aB aA ai aq V E ax ac ab aa Z Y ap aO au af ar c A j x2 = some r) {aP : Nat} {aN : Option Addr} {aM : Nat} {ag : Nat} {aW : Option Addr} {aU : Nat} {aV : Option Addr} {aT : Nat} {a4 : List Value} {ao : Option Addr} {an : Nat} {ae : Option Addr} {ad : Nat} {I : Im} {F : List HP} {w : World} (hs : Sat I (blk aP 145 [iN aG, iN aF, iN aE, .slice aN C.length aM, iN aD, iN aC, iN aB, .map (some ag), .slice aW ai.length aU, .slice aV aq.length aT] :: mq ag vi64 aA :: osl 3 1 aW ai.length aU (ai.flatMap e64) :: osl 168 12 aV aq.length aT a4 :: F) w) (l : SN42 I aN C.length aM C) (U : NN168 I aq a4) (c4 : Rs I 1 ao af.length an (af.flatMap e64)) (aQ : Rs I 1 ae j.length ad (j.flatMap eB)) :
    CV P 64 [pQ aP 0, .agg (cL9 V E ax ac ab aa Z Y ap aO au ao af.length an ar c A ae j.length ad).toArray, iN x2] w fun v w' => ∃ (J : Im) (ao_px0_8 : Option Addr) (co_px0_8 : Nat) (ao_px0_9 : Option Addr) (co_px0_9 : Nat) (so_px0_9 : List Value), Im.le I J ∧ Sat J (blk aP 145 [iN r.1, iN r.2.1, iN r.2.2.1, .slice aN C.length aM, iN r.2.2.2.1, iN r.2.2.2.2.1, iN r.2.2.2.2.2.1, .map (some ag), .slice ao_px0_8 r.2.2.2.2.2.2.2.1.length co_px0_8, .slice ao_px0_9 r.2.2.2.2.2.2.2.2.length co_px0_9] :: mq ag vi64 r.2.2.2.2.2.2.1 :: osl 3 1 ao_px0_8 r.2.2.2.2.2.2.2.1.length co_px0_8 (r.2.2.2.2.2.2.2.1.flatMap e64) :: osl 168 12 ao_px0_9 r.2.2.2.2.2.2.2.2.length co_px0_9 so_px0_9 :: F) w' ∧ v = .tuple #[] ∧ NN168 J r.2.2.2.2.2.2.2.2 so_px0_9 := by
 unfold f64_m at hm
 refine cv_of (n := 151) Proofs.Tryz.func64 rfl rfl (nLe rfl) <| cQ <| cR <| oB (v := pQ aP 0) (cs := [pQ aP 0]) hs rfl rfl ?_
 clear hs; intro b1 w hs
 refine oB (v := .agg (cL9 V E ax ac ab aa Z Y ap aO au ao af.length an ar c A ae j.length ad).toArray) (cs := (cL9 V E ax ac ab aa Z Y ap aO au ao af.length an ar c A ae j.length ad)) hs rfl rfl ?_
 clear hs; intro b3 w hs
 refine oB (v := iN x2) (cs := [iN x2]) hs rfl rfl ?_
 clear hs; intro b5 w hs
 refine oN <| sQR <| cR ?_
 replace hs := hs.front (k := 2) rfl
 obtain ⟨J7, ak, R, hs⟩ := hs.freezeB
 obtain ⟨cO, B, aw, hs⟩ := hs.freezeB
 refine oV (x_funcL (vf := []) (vc := [pQ b1 0, pQ b5 0]) trivial ⟨rfl, rfl, trivial⟩) rfl <| oV (xA (v := .func (.func 106) #[] #[pQ b1 0, pQ b5 0]) rfl) rfl <| oN <| sQR <| cR <| oF (b := b3) (o := 0) fl42_0 rfl <| ld1 (k := 0) hs rfl rfl ty5 rfl <| oN <| sK <| cw_block <| cQ ?_
 refine cR <| oV (x_eql rfl rfl) rfl <| asB rfl <| oN <| sK ?_
 by_cases bD : V = 1
 · rw [if_pos bD] at hm
   refine cIt rfl (dT bD) <| cQ <| cR <| oV (xM (v := .func (.func 106) #[] #[pQ b1 0, pQ b5 0]) rfl) rfl <| oF (b := b3) (o := 0) fl42_1 rfl <| ld1 (k := 0) hs rfl rfl ty3 rfl ?_
   replace hs := hs.front (k := 4) rfl
   replace hs := hs.front (k := 4) rfl
   replace hs := hs.front (k := 4) rfl
   replace hs := hs.front (k := 4) rfl
   obtain ⟨a1, cW, hm⟩ := bS hm
   replace l := l.mono (ak.trans B); replace U := U.mono (ak.trans B); replace R := R.mono B
   refine oC (fi := []) (vs := (cL14 0 E 0 0 0 0)) (ca := [pQ b1 0, pQ b5 0]) rfl ⟨rfl, rfl, rfl, rfl, rfl, rfl, trivial⟩ en106 (f106_ok _ _ _ _ _ _ _ _ _ _ _ _ _ _ _ _ _ cW hs l U R aw) ?_
   clear hs; rintro _ w ⟨de, cv, cm, cu, cl, bY, bv, hs, rfl, hNz18_px0_9⟩
   refine oN <| sK <| cR ?_
   replace R := R.mono bv
   refine ld1I hs R rfl ty142 rfl <| oF (b := b3) (o := 0) fl42_3 rfl <| oL (k := 4) (vs := (cL3 ac ab aa Z Y)) (v := .agg (cL3 ac ab aa Z Y).toArray) hs rfl rfl ty35 rfl rfl rfl <| oU (vp := [(0, .int .u8 4), (5, .agg (cL3 ac ab aa Z Y).toArray)]) (cs := (cL13 4 0 0 0 0 ac ab aa Z Y 0 none 0 0)) st168 ty168 ⟨rfl, rfl, rfl, rfl, trivial⟩ rfl ?_
   obtain ⟨a0, cV, hm⟩ := bS hm
   replace l := l.mono bv
   refine oC (fi := []) (vs := [pQ aP 0, .agg (cL13 4 0 0 0 0 ac ab aa Z Y 0 none 0 0).toArray]) (ca := []) rfl ⟨rfl, rfl, trivial⟩ en65 (f65_ok _ _ _ _ _ _ _ _ _ _ _ _ _ _ _ _ _ _ _ _ _ _ cV hs l hNz18_px0_9 (Rs.nil _ _ _)) ?_
   clear hs; rintro _ w ⟨c8, bq, bm, bp, bl, bg, cA, hs, rfl, hNz23_px0_9⟩
   refine oN <| blockK_n <| rK (rs := []) (vs := []) (.inl rfl) rfl trivial ?_
   obtain rfl := oJ hm
   replace hs := hs.erase 4
   exact ⟨c8, bq, bm, bp, bl, bg, (((ak.trans B).trans bv).trans cA), hs, rfl, hNz23_px0_9⟩
 rw [if_neg bD] at hm
 refine cIf rfl (dF bD) <| cQ <| cR <| oV (x_eql rfl rfl) rfl <| asB rfl <| oN <| sK ?_
 by_cases bC : V = 2
 · rw [if_pos bC] at hm
   refine cIt rfl (dT bC) <| cQ <| cR <| oV (xM (v := .func (.func 106) #[] #[pQ b1 0, pQ b5 0]) rfl) rfl <| oF (b := b3) (o := 0) fl42_1 rfl <| ld1 (k := 0) hs rfl rfl ty3 rfl ?_
   replace hs := hs.front (k := 4) rfl
   replace hs := hs.front (k := 4) rfl
   replace hs := hs.front (k := 4) rfl
   replace hs := hs.front (k := 4) rfl
   obtain ⟨aZ, cU, hm⟩ := bS hm
   replace l := l.mono (ak.trans B); replace U := U.mono (ak.trans B); replace R := R.mono B
   refine oC (fi := []) (vs := (cL14 0 E 0 0 0 0)) (ca := [pQ b1 0, pQ b5 0]) rfl ⟨rfl, rfl, rfl, rfl, rfl, rfl, trivial⟩ en106 (f106_ok _ _ _ _ _ _ _ _ _ _ _ _ _ _ _ _ _ cU hs l U R aw) ?_
   clear hs; rintro _ w ⟨dd, ct, ck, cr, cj, bX, a5, hs, rfl, hNz29_px0_9⟩
   refine oN <| sQR <| cR <| oV (xM (v := .func (.func 106) #[] #[pQ b1 0, pQ b5 0]) rfl) rfl <| oF (b := b3) (o := 0) fl42_2 rfl <| ld1 (k := 4) hs rfl rfl ty3 rfl ?_
   obtain ⟨aY, cT, hm⟩ := bS hm
   replace l := l.mono a5; replace R := R.mono a5; replace aw := aw.mono a5
   refine oC (fi := []) (vs := (cL14 1 ax 0 0 0 0)) (ca := [pQ b1 0, pQ b5 0]) rfl ⟨rfl, rfl, rfl, rfl, rfl, rfl, trivial⟩ en106 (f106_ok _ _ _ _ _ _ _ _ _ _ _ _ _ _ _ _ _ cT hs l hNz29_px0_9 R aw) ?_
   clear hs; rintro _ w ⟨dc, cq, ci, cp, ch, bW, bu, hs, rfl, hNz34_px0_9⟩
   refine oN <| sK <| cR ?_
   replace R := R.mono bu
   refine ld1I hs R rfl ty142 rfl <| oF (b := b3) (o := 0) fl42_4 rfl <| ld1 (k := 4) hs rfl rfl ty5 rfl <| oU (vp := [(0, .int .u8 5), (3, iN 1), (6, .int .u8 ap)]) (cs := (cL13 5 0 0 1 0 0 0 0 0 0 ap none 0 0)) st168 ty168 ⟨rfl, rfl, rfl, rfl, rfl, rfl, trivial⟩ rfl ?_
   obtain ⟨aX, cS, hm⟩ := bS hm
   replace l := l.mono bu
   refine oC (fi := []) (vs := [pQ aP 0, .agg (cL13 5 0 0 1 0 0 0 0 0 0 ap none 0 0).toArray]) (ca := []) rfl ⟨rfl, rfl, trivial⟩ en65 (f65_ok _ _ _ _ _ _ _ _ _ _ _ _ _ _ _ _ _ _ _ _ _ _ cS hs l hNz34_px0_9 (Rs.nil _ _ _)) ?_
   clear hs; rintro _ w ⟨c7, bo, bk, bn, bj, bf, cz, hs, rfl, hNz39_px0_9⟩
   refine oN <| blockK_n <| rK (rs := []) (vs := []) (.inl rfl) rfl trivial ?_
   obtain rfl := oJ hm
   replace hs := hs.erase 4
   exact ⟨c7, bo, bk, bn, bj, bf, ((((ak.trans B).trans a5).trans bu).trans cz), hs, rfl, hNz39_px0_9⟩
 rw [if_neg bC] at hm
 refine cIf rfl (dF bC) <| cQ <| cR <| oV (x_eql rfl rfl) rfl <| asB rfl <| oN <| sK ?_
 by_cases bB : V = 3
 · rw [if_pos bB] at hm
   refine cIt rfl (dT bB) <| cQ <| cR ?_
   replace R := R.mono B
   refine ld1I hs R rfl ty142 rfl <| oU (vp := [(0, .int .u8 3)]) (cs := (cL13 3 0 0 0 0 0 0 0 0 0 0 none 0 0)) st168 ty168 ⟨rfl, rfl, trivial⟩ rfl ?_
   replace hs := hs.front (k := 4) rfl
   replace hs := hs.front (k := 4) rfl
   replace hs := hs.front (k := 4) rfl
   replace hs := hs.front (k := 4) rfl
   obtain ⟨c5, cP, hm⟩ := bS hm
   replace l := l.mono (ak.trans B); replace U := U.mono (ak.trans B)
   refine oC (fi := []) (vs := [pQ aP 0, .agg (cL13 3 0 0 0 0 0 0 0 0 0 0 none 0 0).toArray]) (ca := []) rfl ⟨rfl, rfl, trivial⟩ en65 (f65_ok _ _ _ _ _ _ _ _ _ _ _ _ _ _ _ _ _ _ _ _ _ _ cP hs l U (Rs.nil _ _ _)) ?_
   clear hs; rintro _ w ⟨db, co, cg, cn, cf, bV, c6, hs, rfl, hNz45_px0_9⟩
   refine oN <| sQR ?_
   cases hm
 rw [if_neg bB] at hm
 refine cIf rfl (dF bB) <| cQ <| cR <| asI rfl <| asI rfl <| asI rfl <| oN <| sK ?_
 obtain ⟨D, cY, cX⟩ := bS hm
 replace hm := cY; clear cY
 refine cJ (fun f ds w => ∃ (bM : Im), ds = [] ∧ Im.le cO bM ∧ Sat bM (blk b3 42 (cL9 V E ax ac ab aa Z Y ap aO au ao af.length an ar c A ae j.length ad) :: blk aP 145 [iN aG, iN aF, iN aE, .slice aN C.length aM, iN aD, iN aC, iN aB, .map (some ag), .slice aW ai.length aU, .slice aV aq.length aT] :: mq ag vi64 aA :: osl 3 1 aW ai.length aU (ai.flatMap e64) :: osl 168 12 aV aq.length aT a4 :: F) w ∧ f 3 = pQ b1 0 ∧ f 4 = pQ b3 0 ∧ f 6 = .func (.func 106) #[] #[pQ b1 0, pQ b5 0] ∧ f 9 = iN D.1 ∧ f 10 = iN D.2.1 ∧ f 11 = .int .u8 D.2.2) ?_ ?_
 · refine cQ <| cR <| oF (b := b3) (o := 0) fl42_0 rfl <| ld1 (k := 0) hs rfl rfl ty5 rfl <| oV (x_eql rfl rfl) rfl <| oN <| sK ?_
   by_cases bA : V = 4
   · rw [if_pos bA] at hm
     refine cIt rfl (dT bA) <| cR <| asI rfl <| asI rfl <| asI rfl <| oN ?_
     obtain rfl := oJ hm
     refine jN ⟨cO, rfl, iR, hs, rfl, rfl, rfl, rfl, rfl, rfl⟩
   rw [if_neg bA] at hm
   refine cIf rfl (dF bA) <| cw_skip ?_
   obtain rfl := oJ hm
   refine jN ⟨cO, rfl, iR, hs, rfl, rfl, rfl, rfl, rfl, rfl⟩
 clear hm hs
 rintro f ds w ⟨bM, rfl, am, hs, bK, bh, bJ, bI, bH, bG⟩
 replace hm := cX
 refine cQ <| cR <| asB rfl <| oN <| sQR <| cR <| oF (b := b3) (o := 0) fl42_7 bh <| oF (b := b3) (o := 13) fl40_2 rfl <| ld1 (k := 0) hs rfl rfl ty38 rfl <| oV (x_len sl38 rfl) rfl <| mI rfl ?_
 refine oN <| sK <| cw_block ?_
 replace U := U.mono ((ak.trans B).trans am)
 refine cL (S := fun k f ds w => ∃ (G : Bool) (a : Int) (z : Int) (y : Int) (x : Int) (u : Int) (t : Int) (s : Int) (q : List (Int × Int)) (e : List Int) (h : List (T4x)), ∃ (N : Option Addr) (K : Nat) (M : Option Addr) (H : Nat) (Q : List Value) (br : Im), ds = [] ∧ Im.le bM br ∧ f64_l0 C E c A j x2 D k G a z y x u t s q e h = some r ∧ Sat br (blk b3 42 (cL9 V E ax ac ab aa Z Y ap aO au ao af.length an ar c A ae j.length ad) :: blk aP 145 [iN z, iN y, iN x, .slice aN C.length aM, iN u, iN t, iN s, .map (some ag), .slice N e.length K, .slice M h.length H] :: mq ag vi64 q :: osl 3 1 N e.length K (e.flatMap e64) :: osl 168 12 M h.length H Q :: F) w ∧ f 3 = pQ b1 0 ∧ f 4 = pQ b3 0 ∧ f 6 = .func (.func 106) #[] #[pQ b1 0, pQ b5 0] ∧ f 9 = iN D.1 ∧ f 10 = iN D.2.1 ∧ f 11 = .int .u8 D.2.2 ∧ f 12 = .bool G ∧ f 25 = .slice ae j.length ad ∧ f 26 = iN (j.length : Int) ∧ f 27 = iN a ∧ NN168 br h Q) ?_ (k := FUEL) ⟨true, 0, aG, aF, aE, aD, aC, aB, aA, ai, aq, aW, aU, aV, aT, a4, bM, rfl, iR, hm, hs, bK, bh, bJ, bI, bH, bG, rfl, rfl, rfl, rfl, U⟩
 clear hm hs
 rintro k f ds w ⟨G, a, z, y, x, u, t, s, q, e, h, N, K, M, H, Q, br, rfl, X, hm, hs, aR, W, aI, aH, av, aL, aS, aK, aJ, aj, m⟩
 rcases k with _ | k
 · unfold f64_l0 at hm; cases hm
 unfold f64_l0 at hm
 refine cQ <| cR <| oV (x_lss aj aJ) rfl <| oN <| sQR ?_
 by_cases bz : a < (j.length : Int)
 · rw [if_pos bz] at hm
   refine cIt rfl (dT bz) <| cw_skip <| sQR <| cw_block <| cQ <| cR <| mI aj ?_
   have bi := (iS hm).1
   replace hm := (iS hm).2
   replace aQ := aQ.mono (((ak.trans B).trans am).trans X)
   refine oI (i := a) sl38 ty4 aK aj bi.1 bi.2 (Rs.some aQ (by have := bi; omega)) <| oLR (p := a.toNat * 1) (vs := [.bool (at' j a)]) (v := .bool (at' j a)) hs aQ rfl ty4 (flat_at (enc := eB) (sz := 1) (fun _ => rfl) j a bi.1 bi.2 0 1 (by decide)) rfl rfl <| asI rfl <| asB rfl <| oN <| sQR <| cQ <| cR <| mB rfl <| oV (x_not (b := (at' j a)) rfl) rfl <| oN ?_
   refine sK ?_
   by_cases bx : (!(at' j a)) = true
   · rw [if_pos bx] at hm
     refine cIt rfl bx <| cw_exit <| seqK_x <| blockK_hit <| sK <| cR <| oV (x_add aj rfl) rfl <| mI rfl <| oN ?_
     exact lN ⟨k, Nat.lt_succ_self k, G, w64 (a + 1), z, y, x, u, t, s, q, e, h, N, K, M, H, Q, br, rfl, X, hm, hs, aR, W, aI, aH, av, aL, aS, aK, aJ, rfl, m⟩
   rw [if_neg bx] at hm
   refine cIf rfl (bF bx) <| cw_skip <| sQR ?_
   have c0 := (iS hm).1
   replace hm := (iS hm).2
   have cZ := (iS hm).1
   replace hm := (iS hm).2
   refine cD mixed rfl (fun f0 L f w => ∃ (T : Im), Im.le br T ∧ f = frL ((34, 0, iN D.1) :: (35, 1, iN a) :: (36, 2, pQ b3 13) :: (37, 3, pQ b3 13) :: (38, 4, iN c) :: (39, 5, iN (Int.tmod a c)) :: (40, 6, pQ b3 13) :: (41, 7, pQ b3 13) :: (42, 8, iN c) :: (43, 9, iN (w64 (Int.tdiv c 2))) :: (44, 10, iN (w64 ((Int.tmod a c) - (w64 (Int.tdiv c 2))))) :: (45, 11, iN (w64 (D.1 * (w64 ((Int.tmod a c) - (w64 (Int.tdiv c 2))))))) :: (46, 12, iN D.1) :: (47, 13, iN a) :: (48, 14, pQ b3 13) :: (49, 15, pQ b3 13) :: (50, 16, iN c) :: (51, 17, iN (w64 (Int.tdiv a c))) :: (52, 18, pQ b3 13) :: (53, 19, pQ b3 14) :: (54, 20, iN A) :: (55, 21, iN (w64 (Int.tdiv A 2))) :: (56, 22, iN (w64 ((w64 (Int.tdiv a c)) - (w64 (Int.tdiv A 2))))) :: (57, 23, iN (w64 (D.1 * (w64 ((w64 (Int.tdiv a c)) - (w64 (Int.tdiv A 2))))))) :: (15, 24, iN (w64 (D.1 * (w64 ((Int.tmod a c) - (w64 (Int.tdiv c 2))))))) :: (16, 25, iN (w64 (D.1 * (w64 ((w64 (Int.tdiv a c)) - (w64 (Int.tdiv A 2))))))) :: []) L f0 ∧ Sat T (blk b3 42 (cL9 V E ax ac ab aa Z Y ap aO au ao af.length an ar c A ae j.length ad) :: blk aP 145 [iN z, iN y, iN x, .slice aN C.length aM, iN u, iN t, iN s, .map (some ag), .slice N e.length K, .slice M h.length H] :: mq ag vi64 q :: osl 3 1 N e.length K (e.flatMap e64) :: osl 168 12 M h.length H Q :: F) w) ⟨br, iR, (frL_ff _).symm, hs.drew⟩ ⟨?_, ?_, ?_, ?_, ?_, ?_, ?_, ?_, ?_, ?_, ?_, ?_, ?_, ?_, ?_, ?_, ?_, ?_, ?_, ?_, ?_, ?_, ?_, ?_, ?_, ?_, trivial⟩ ?_
   all_goals clear hs
   · rintro L f w _ hL ⟨T, d, rfl, hs⟩
     refine mI aH ?_
     exact oN ⟨rfl, rfl, T, d, fS rfl rfl, hs⟩
   · rintro L f w _ hL ⟨T, d, rfl, hs⟩
     refine mI rfl ?_
     exact oN ⟨rfl, rfl, T, d, fS rfl rfl, hs⟩
   · rintro L f w _ hL ⟨T, d, rfl, hs⟩
     refine oF (b := b3) (o := 0) fl42_7 W ?_
     exact oN ⟨rfl, rfl, T, d, fS rfl rfl, hs⟩
   · rintro L f w ⟨cK, _⟩ hL ⟨T, d, rfl, hs⟩
     refine oF (b := b3) (o := 13) fl40_0 (fG rfl cK) ?_
     exact oN ⟨rfl, rfl, T, d, fS rfl rfl, hs⟩
   · rintro L f w ⟨cI, _⟩ hL ⟨T, d, rfl, hs⟩
     refine ld1 (k := 0) hs rfl (fG rfl cI) ty3 rfl ?_
     exact oN ⟨rfl, rfl, T, d, fS rfl rfl, hs⟩
   · rintro L f w ⟨cM, cH, _⟩ hL ⟨T, d, rfl, hs⟩
     refine oV (x_rem (fG rfl cM) (fG rfl cH) c0) rfl ?_
     exact oN ⟨rfl, rfl, T, d, fS rfl rfl, hs⟩
   · rintro L f w _ hL ⟨T, d, rfl, hs⟩
     refine oF (b := b3) (o := 0) fl42_7 W ?_
     exact oN ⟨rfl, rfl, T, d, fS rfl rfl, hs⟩
   · rintro L f w ⟨cF, _⟩ hL ⟨T, d, rfl, hs⟩
     refine oF (b := b3) (o := 13) fl40_0 (fG rfl cF) ?_
     exact oN ⟨rfl, rfl, T, d, fS rfl rfl, hs⟩
   · rintro L f w ⟨cE, _⟩ hL ⟨T, d, rfl, hs⟩
     refine ld1 (k := 0) hs rfl (fG rfl cE) ty3 rfl ?_
     exact oN ⟨rfl, rfl, T, d, fS rfl rfl, hs⟩
   · rintro L f w ⟨cC, _⟩ hL ⟨T, d, rfl, hs⟩
     refine oV (x_quo (fG rfl cC) rfl (by decide)) rfl ?_
     exact oN ⟨rfl, rfl, T, d, fS rfl rfl, hs⟩
   · rintro L f w ⟨cG, cB, _⟩ hL ⟨T, d, rfl, hs⟩
     refine oV (x_sub (fG rfl cG) (fG rfl cB)) rfl ?_
     exact oN ⟨rfl, rfl, T, d, fS rfl rfl, hs⟩
   · rintro L f w ⟨cN, bL, _⟩ hL ⟨T, d, rfl, hs⟩
     refine oV (x_mul (fG rfl cN) (fG rfl bL)) rfl ?_
     exact oN ⟨rfl, rfl, T, d, fS rfl rfl, hs⟩
   · rintro L f w _ hL ⟨T, d, rfl, hs⟩
     refine mI aH ?_
     exact oN ⟨rfl, rfl, T, d, fS rfl rfl, hs⟩
   · rintro L f w _ hL ⟨T, d, rfl, hs⟩
     refine mI rfl ?_
     exact oN ⟨rfl, rfl, T, d, fS rfl rfl, hs⟩
   · rintro L f w _ hL ⟨T, d, rfl, hs⟩
     refine oF (b := b3) (o := 0) fl42_7 W ?_
     exact oN ⟨rfl, rfl, T, d, fS rfl rfl, hs⟩
   · rintro L f w ⟨cb, _⟩ hL ⟨T, d, rfl, hs⟩
     refine oF (b := b3) (o := 13) fl40_0 (fG rfl cb) ?_
     exact oN ⟨rfl, rfl, T, d, fS rfl rfl, hs⟩
   · rintro L f w ⟨b9, _⟩ hL ⟨T, d, rfl, hs⟩
     refine ld1 (k := 0) hs rfl (fG rfl b9) ty3 rfl ?_
     exact oN ⟨rfl, rfl, T, d, fS rfl rfl, hs⟩
   · rintro L f w ⟨cc, b8, _⟩ hL ⟨T, d, rfl, hs⟩
     refine oV (x_quo (fG rfl cc) (fG rfl b8) cZ) rfl ?_
     exact oN ⟨rfl, rfl, T, d, fS rfl rfl, hs⟩
   · rintro L f w _ hL ⟨T, d, rfl, hs⟩
     refine oF (b := b3) (o := 0) fl42_7 W ?_
     exact oN ⟨rfl, rfl, T, d, fS rfl rfl, hs⟩
   · rintro L f w ⟨b6, _⟩ hL ⟨T, d, rfl, hs⟩
     refine oF (b := b3) (o := 13) fl40_1 (fG rfl b6) ?_
     exact oN ⟨rfl, rfl, T, d, fS rfl rfl, hs⟩
   · rintro L f w ⟨b4, _⟩ hL ⟨T, d, rfl, hs⟩
     refine ld1 (k := 0) hs rfl (fG rfl b4) ty3 rfl ?_
     exact oN ⟨rfl, rfl, T, d, fS rfl rfl, hs⟩
   · rintro L f w ⟨b2, _⟩ hL ⟨T, d, rfl, hs⟩
     refine oV (x_quo (fG rfl b2) rfl (by decide)) rfl ?_
     exact oN ⟨rfl, rfl, T, d, fS rfl rfl, hs⟩
   · rintro L f w ⟨b7, b0, _⟩ hL ⟨T, d, rfl, hs⟩
     refine oV (x_sub (fG rfl b7) (fG rfl b0)) rfl ?_
     exact oN ⟨rfl, rfl, T, d, fS rfl rfl, hs⟩
   · rintro L f w ⟨cd, bZ, _⟩ hL ⟨T, d, rfl, hs⟩
     refine oV (x_mul (fG rfl cd) (fG rfl bZ)) rfl ?_
     exact oN ⟨rfl, rfl, T, d, fS rfl rfl, hs⟩
   · rintro L f w ⟨ce, cN, cM, cK, cI, cH, cG, cF, cE, cC, cB, bL, _, _⟩ hL ⟨T, d, rfl, hs⟩
     refine asI (fG rfl ce) ?_
     exact oN ⟨rfl, rfl, T, d, fS rfl rfl, hs⟩
   · rintro L f w ⟨c1, c9, cN, cM, cK, cI, cH, cG, cF, cE, cC, cB, bL, ce, cd, cc, cb, b9, b8, b7, b6, b4, b2, b0, bZ, _, _, _⟩ hL ⟨T, d, rfl, hs⟩
     refine asI (fG rfl c1) ?_
     exact oN ⟨rfl, rfl, T, d, fS rfl rfl, hs⟩
   rintro L f w hall ⟨df, ah, rfl, hs⟩
   rw [frL_tt _ rfl hall]
   refine sQR <| cQ <| cR <| mB aS <| oN <| sK ?_
   by_cases bw : G = true
   · rw [if_pos bw] at hm
     refine cIt rfl bw <| cQ <| cR <| oV (xM (v := .func (.func 106) #[] #[pQ b1 0, pQ b5 0]) aI) rfl <| oF (b := b3) (o := 0) fl42_1 W <| ld1 (k := 0) hs rfl rfl ty3 rfl <| mI rfl <| mI rfl <| mI av ?_
     replace hs := hs.front (k := 4) rfl
     replace hs := hs.front (k := 4) rfl
     replace hs := hs.front (k := 4) rfl
     replace hs := hs.front (k := 4) rfl
     obtain ⟨al, cy, hm⟩ := bS hm
     replace l := l.mono ((((ak.trans B).trans am).trans X).trans ah); replace R := R.mono (((B.trans am).trans X).trans ah); replace aw := aw.mono ((am.trans X).trans ah); replace m := m.mono ah
     refine oC (fi := []) (vs := (cL14 0 E (w64 (D.1 * (w64 ((Int.tmod a c) - (w64 (Int.tdiv c 2)))))) (w64 (D.1 * (w64 ((w64 (Int.tdiv a c)) - (w64 (Int.tdiv A 2)))))) D.2.1 0)) (ca := [pQ b1 0, pQ b5 0]) rfl ⟨rfl, rfl, rfl, rfl, rfl, rfl, trivial⟩ en106 (f106_ok _ _ _ _ _ _ _ _ _ _ _ _ _ _ _ _ _ cy hs l m R aw) ?_
     clear hs; rintro _ w ⟨c3, be, ba, bd, a9, a3, bP, hs, rfl, hNz103_px0_9⟩
     refine oN <| sQR <| cR <| asB rfl <| oN <| sK <| cw_exit <| seqK_x <| blockK_hit <| sK <| cR ?_
     refine oV (x_add aj rfl) rfl <| mI rfl <| oN ?_
     replace hs := hs.front (k := 3) rfl
     replace hs := hs.front (k := 3) rfl
     replace hs := hs.front (k := 3) rfl
     replace hs := hs.front (k := 3) rfl
     replace hs := hs.front (k := 4) rfl
     exact lN ⟨k, Nat.lt_succ_self k, false, w64 (a + 1), al.1, al.2.1, al.2.2.1, al.2.2.2.1, al.2.2.2.2.1, al.2.2.2.2.2.1, al.2.2.2.2.2.2.1, al.2.2.2.2.2.2.2.1, al.2.2.2.2.2.2.2.2, be, ba, bd, a9, a3, c3, rfl, ((X.trans ah).trans bP), hm, hs, aR, W, aI, aH, av, aL, rfl, aK, aJ, rfl, hNz103_px0_9⟩
   rw [if_neg bw] at hm
   refine cIf rfl (bF bw) <| cw_skip <| sQR <| cR <| oV (xM (v := .func (.func 106) #[] #[pQ b1 0, pQ b5 0]) aI) rfl <| oF (b := b3) (o := 0) fl42_1 W <| ld1 (k := 0) hs rfl rfl ty3 rfl <| mI rfl <| mI rfl <| mI av ?_
   replace hs := hs.front (k := 4) rfl
   replace hs := hs.front (k := 4) rfl
   replace hs := hs.front (k := 4) rfl
   replace hs := hs.front (k := 4) rfl
   obtain ⟨ay, cx, hm⟩ := bS hm
   replace l := l.mono ((((ak.trans B).trans am).trans X).trans ah); replace R := R.mono (((B.trans am).trans X).trans ah); replace aw := aw.mono ((am.trans X).trans ah); replace m := m.mono ah
   refine oC (fi := []) (vs := (cL14 1 E (w64 (D.1 * (w64 ((Int.tmod a c) - (w64 (Int.tdiv c 2)))))) (w64 (D.1 * (w64 ((w64 (Int.tdiv a c)) - (w64 (Int.tdiv A 2)))))) D.2.1 0)) (ca := [pQ b1 0, pQ b5 0]) rfl ⟨rfl, rfl, rfl, rfl, rfl, rfl, trivial⟩ en106 (f106_ok _ _ _ _ _ _ _ _ _ _ _ _ _ _ _ _ _ cx hs l m R aw) ?_
   clear hs; rintro _ w ⟨da, bU, bR, bT, bQ, bN, a6, hs, rfl, hNz108_px0_9⟩
   refine oN <| sK <| cR ?_
   replace R := R.mono a6
   refine ld1I hs R aR ty142 rfl <| mI aL <| oU (vp := [(0, .int .u8 5), (3, iN 1), (6, .int .u8 D.2.2)]) (cs := (cL13 5 0 0 1 0 0 0 0 0 0 D.2.2 none 0 0)) st168 ty168 ⟨rfl, rfl, rfl, rfl, rfl, rfl, trivial⟩ rfl ?_
   obtain ⟨O, cw, hm⟩ := bS hm
   replace l := l.mono a6
   refine oC (fi := []) (vs := [pQ aP 0, .agg (cL13 5 0 0 1 0 0 0 0 0 0 D.2.2 none 0 0).toArray]) (ca := []) rfl ⟨rfl, rfl, trivial⟩ en65 (f65_ok _ _ _ _ _ _ _ _ _ _ _ _ _ _ _ _ _ _ _ _ _ _ cw hs l hNz108_px0_9 (Rs.nil _ _ _)) ?_
   clear hs; rintro _ w ⟨c2, bc, a8, bb, a7, a2, bO, hs, rfl, hNz113_px0_9⟩
   refine oN <| blockK_n <| sK <| cR <| oV (x_add aj rfl) rfl <| mI rfl <| oN ?_
   replace hs := hs.front (k := 3) rfl
   replace hs := hs.front (k := 3) rfl
   replace hs := hs.front (k := 3) rfl
   replace hs := hs.front (k := 3) rfl
   replace hs := hs.front (k := 4) rfl
   exact lN ⟨k, Nat.lt_succ_self k, G, w64 (a + 1), O.1, O.2.1, O.2.2.1, O.2.2.2.1, O.2.2.2.2.1, O.2.2.2.2.2.1, O.2.2.2.2.2.2.1, O.2.2.2.2.2.2.2.1, O.2.2.2.2.2.2.2.2, bc, a8, bb, a7, a2, c2, rfl, (((X.trans ah).trans a6).trans bO), hm, hs, aR, W, aI, aH, av, aL, aS, aK, aJ, rfl, hNz113_px0_9⟩
 rw [if_neg bz] at hm
 refine cIf rfl (dF bz) <| cw_exit <| seqK_x <| loopK_x <| blockK_hit <| blockK_n <| rK (rs := []) (vs := []) (.inl rfl) rfl trivial ?_
 obtain rfl := oJ hm
 replace hs := hs.erase 0
 exact ⟨br, N, K, M, H, Q, (((ak.trans B).trans am).trans X), hs, rfl, m⟩
def f40_l1 (s : List (T2x)) (c : List (T1x)) : Nat → Int → Int → Int → Int → Int → Int → Int → (List (Int × Int)) → (List Int) → (List (T4x)) → Option (Int × Int × Int × Int × Int × Int × (List (Int × Int)) × List Int × (List (T4x)))
  | 0, _, _, _, _, _, _, _, _, _, _ => none
  | k + 1, a, af, ae, ad, ac, ab, aa, Z, A, z => (if a < (c.length : Int) then (if 0 ≤ a ∧ a < (c.length : Int) then ((f65_m af ae ad s ac ab aa Z A z 4 0 0 0 0 ((at' c a).1) ((at' c a).2.1) ((at' c a).2.2.1) ((at' c a).2.2.2.1) ((at' c a).2.2.2.2) 0 []).bind fun ag => (f40_l1 s c k (w64 (a + 1)) ag.1 ag.2.1 ag.2.2.1 ag.2.2.2.1 ag.2.2.2.2.1 ag.2.2.2.2.2.1 ag.2.2.2.2.2.2.1 ag.2.2.2.2.2.2.2.1 ag.2.2.2.2.2.2.2.2)) else none) else some (af, ae, ad, ac, ab, aa, Z, A, z))
def f40_l0 (s : List (T2x)) (av : Int) (au : Int) (ar : Int) (aq : Int) (ap : Int) (ao : Int) (an : Int) (am : Int) (al : Int) (ak : Int) (E : Int) (u : List Int) (D : Int) (C : Int) (B : Int) (t : List Bool) (c : List (T1x)) (r3 : Int × Int × Int × Int × Int × Int × Int × (List (Int × Int)) × List Int × (List (T4x))) (r8 : Int) : Nat → Int → Int → Int → Int → Int → Int → Int → (List (Int × Int)) → (List Int) → (List (T4x)) → Option (Int × Int × Int × Int × Int × Int × (List (Int × Int)) × List Int × (List (T4x)))
  | 0, _, _, _, _, _, _, _, _, _, _ => none
  | k + 1, m, Y, X, W, V, U, T, R, y, x => (if m < r8 then (((f64_m Y X W s V U T R y x av au ar aq ap ao an am al ak E u D C B t m).bind fun ah => ((f40_l1 s c FUEL 0 ah.1 ah.2.1 ah.2.2.1 ah.2.2.2.1 ah.2.2.2.2.1 ah.2.2.2.2.2.1 ah.2.2.2.2.2.2.1 ah.2.2.2.2.2.2.2.1 ah.2.2.2.2.2.2.2.2).bind fun (G : Int × Int × Int × Int × Int × Int × (List (Int × Int)) × List Int × (List (T4x))) => ((f66_m G.1 G.2.1 G.2.2.1 s G.2.2.2.1 G.2.2.2.2.1 G.2.2.2.2.2.1 G.2.2.2.2.2.2.1 G.2.2.2.2.2.2.2.1 G.2.2.2.2.2.2.2.2 m r3.1 0 0 0).bind fun aF => ((f65_m aF.2.1 aF.2.2.1 aF.2.2.2.1 s aF.2.2.2.2.1 aF.2.2.2.2.2.1 aF.2.2.2.2.2.2.1 aF.2.2.2.2.2.2.2.1 aF.2.2.2.2.2.2.2.2.1 aF.2.2.2.2.2.2.2.2.2 2 0 0 0 0 0 0 0 0 0 0 aF.1).bind fun aJ => some (aJ.1, aJ.2.1, aJ.2.2.1, aJ.2.2.2.1, aJ.2.2.2.2.1, aJ.2.2.2.2.2.1, aJ.2.2.2.2.2.2.1, aJ.2.2.2.2.2.2.2.1, aJ.2.2.2.2.2.2.2.2))))).bind fun (q : Int × Int × Int × Int × Int × Int × (List (Int × Int)) × List Int × (List (T4x))) => (f40_l0 s av au ar aq ap ao an am al ak E u D C B t c r3 r8 k (w64 (m + 1)) q.1 q.2.1 q.2.2.1 q.2.2.2.1 q.2.2.2.2.1 q.2.2.2.2.2.1 q.2.2.2.2.2.2.1 q.2.2.2.2.2.2.2.1 q.2.2.2.2.2.2.2.2)) else some (Y, X, W, V, U, T, R, y, x))
def f40_m (bL : Int) (bK : Int) (bJ : Int) (s : List (T2x)) (bI : Int) (bH : Int) (bG : Int) (bE : List (Int × Int)) (a3 : List Int) (a2 : List (T4x)) (av : Int) (au : Int) (ar : Int) (aq : Int) (ap : Int) (ao : Int) (an : Int) (am : Int) (al : Int) (ak : Int) (E : Int) (u : List Int) (D : Int) (C : Int) (B : Int) (t : List Bool) (c : List (T1x)) (aA : List Int) (az : Int) : Option (Int × Int × Int × Int × Int × Int × (List (Int × Int)) × List Int × (List (T4x))) :=
  ((f37_m bL bK bJ s bI bH bG bE a3 a2 az).bind fun r3 => ((f63_m r3.2.1 r3.2.2.1 r3.2.2.2.1 s r3.2.2.2.2.1).bind fun r8 => (f40_l0 s av au ar aq ap ao an am al ak E u D C B t c r3 r8 FUEL 0 r3.2.1 r3.2.2.1 r3.2.2.2.1 r3.2.2.2.2.1 r3.2.2.2.2.2.1 r3.2.2.2.2.2.2.1 r3.2.2.2.2.2.2.2.1 r3.2.2.2.2.2.2.2.2.1 r3.2.2.2.2.2.2.2.2.2)))
theorem f40_ok (bL : Int) (bK : Int) (bJ : Int) (s : List (T2x)) (bI : Int) (bH : Int) (bG : Int) (bE : List (Int × Int)) (a3 : List Int) (a2 : List (T4x)) (av : Int) (au : Int) (ar : Int) (aq : Int) (ap : Int) (ao : Int) (an : Int) (am : Int) (al : Int) (ak : Int) (E : Int) (u : List Int) (D : Int) (C : Int) (B : Int) (t : List Bool) (c : List (T1x)) (aA : List Int) (az : Int) {r : Int × Int × Int × Int × Int × Int × (List (Int × Int)) × List Int × (List (T4x))} (hm : f40_m bL bK bJ s bI bH bG bE a3 a2 av au ar aq ap ao an am al ak E u D C B t c aA az = some r) {aw : Nat} {aC : Option Addr} {aB : Nat} {aj : Nat} {b7 : Option Addr} {b5 : Nat} {b6 : Option Addr} {b4 : Nat} {b2 : List Value} {Q : Option Addr} {N : Nat} {O : Option Addr} {M : Nat} {ay : Option Addr} {ax : Nat} {aE : Option Addr} {aD : Nat} {I : Im} {F : List HP} {w : World} (hs : Sat I (blk aw 145 [iN bL, iN bK, iN bJ, .slice aC s.length aB, iN bI, iN bH, iN bG, .map (some aj), .slice b7 a3.length b5, .slice b6 a2.length b4] :: mq aj vi64 bE :: osl 3 1 b7 a3.length b5 (a3.flatMap e64) :: osl 168 12 b6 a2.length b4 b2 :: F) w) (K : SN42 I aC s.length aB s) (cj : NN168 I a2 b2) (bb : Rs I 1 Q u.length N (u.flatMap e64)) (ba : Rs I 1 O t.length M (t.flatMap eB)) (aS : Rs I 5 ay c.length ax (c.flatMap enc35)) (cv : Rs I 1 aE aA.length aD (aA.flatMap e64)) :
    CV P 40 [pQ aw 0, .agg (cL11 av au ar aq ap ao an am al ak E Q u.length N D C B O t.length M ay c.length ax aE aA.length aD az).toArray] w fun v w' => ∃ (J : Im) (ao_px0_8 : Option Addr) (co_px0_8 : Nat) (ao_px0_9 : Option Addr) (co_px0_9 : Nat) (so_px0_9 : List Value), Im.le I J ∧ Sat J (blk aw 145 [iN r.1, iN r.2.1, iN r.2.2.1, .slice aC s.length aB, iN r.2.2.2.1, iN r.2.2.2.2.1, iN r.2.2.2.2.2.1, .map (some aj), .slice ao_px0_8 r.2.2.2.2.2.2.2.1.length co_px0_8, .slice ao_px0_9 r.2.2.2.2.2.2.2.2.length co_px0_9] :: mq aj vi64 r.2.2.2.2.2.2.1 :: osl 3 1 ao_px0_8 r.2.2.2.2.2.2.2.1.length co_px0_8 (r.2.2.2.2.2.2.2.1.flatMap e64) :: osl 168 12 ao_px0_9 r.2.2.2.2.2.2.2.2.length co_px0_9 so_px0_9 :: F) w' ∧ v = .tuple #[] ∧ NN168 J r.2.2.2.2.2.2.2.2 so_px0_9 := by
 unfold f40_m at hm
 refine cv_of (n := 50) Proofs.Tryz.func40 rfl rfl (nLe rfl) <| cQ <| cR <| oB (v := .agg (cL11 av au ar aq ap ao an am al ak E Q u.length N D C B O t.length M ay c.length ax aE aA.length aD az).toArray) (cs := (cL11 av au ar aq ap ao an am al ak E Q u.length N D C B O t.length M ay c.length ax aE aA.length aD az)) hs rfl rfl ?_
 clear hs; intro b1 w hs
 refine oN <| sQR <| cR <| mP rfl <| oF (b := b1) (o := 0) fl152_3 rfl <| ld1 (k := 0) hs rfl rfl ty3 rfl ?_
 replace hs := hs.front (k := 4) rfl
 replace hs := hs.front (k := 4) rfl
 replace hs := hs.front (k := 4) rfl
 replace hs := hs.front (k := 4) rfl
 obtain ⟨r3, cx, hm⟩ := bS hm
 refine oC (fi := []) (vs := [pQ aw 0, iN az]) (ca := []) rfl ⟨rfl, rfl, trivial⟩ en37 (f37_ok _ _ _ _ _ _ _ _ _ _ _ cx hs K cj) ?_
 clear hs; rintro _ w ⟨J5, aN, aL, aM, aK, aV, a5, hs, rfl, hNz7_px0_9⟩
 refine asI rfl <| oN <| sQR ?_
 obtain ⟨r8, cw, hm⟩ := bS hm
 refine cD mixed rfl (fun f0 L f w => ∃ (Iq : Im), Im.le J5 Iq ∧ f = frL [(12, 0, pQ aw 0), (13, 1, pQ aw 0), (14, 2, pQ aw 0), (15, 3, .agg (cL8 r3.2.1 r3.2.2.1 r3.2.2.2.1 aC s.length aB).toArray), (16, 4, pQ aw 0), (17, 5, pQ aw 0), (18, 6, pQ aw 4), (19, 7, pQ aw 4), (20, 8, iN r3.2.2.2.2.1), (21, 9, iN r8), (22, 10, iN 0)] L f0 ∧ Sat Iq (blk aw 145 [iN r3.2.1, iN r3.2.2.1, iN r3.2.2.2.1, .slice aC s.length aB, iN r3.2.2.2.2.1, iN r3.2.2.2.2.2.1, iN r3.2.2.2.2.2.2.1, .map (some aj), .slice aN r3.2.2.2.2.2.2.2.2.1.length aL, .slice aM r3.2.2.2.2.2.2.2.2.2.length aK] :: mq aj vi64 r3.2.2.2.2.2.2.2.1 :: osl 3 1 aN r3.2.2.2.2.2.2.2.2.1.length aL (r3.2.2.2.2.2.2.2.2.1.flatMap e64) :: osl 168 12 aM r3.2.2.2.2.2.2.2.2.2.length aK aV :: blk b1 152 (cL11 av au ar aq ap ao an am al ak E Q u.length N D C B O t.length M ay c.length ax aE aA.length aD az) :: F) w) ⟨J5, iR, (frL_ff _).symm, hs.drew⟩ ⟨?_, ?_, ?_, ?_, ?_, ?_, ?_, ?_, ?_, ?_, ?_, trivial⟩ ?_
 all_goals clear hs
 · rintro L f w _ hL ⟨Iq, H, rfl, hs⟩
   refine mP rfl ?_
   exact oN ⟨rfl, rfl, Iq, H, fS rfl rfl, hs⟩
 · rintro L f w ⟨cH, _⟩ hL ⟨Iq, H, rfl, hs⟩
   refine oV (x_nilCheck (fG rfl cH)) rfl ?_
   exact oN ⟨rfl, rfl, Iq, H, fS rfl rfl, hs⟩
 · rintro L f w ⟨cG, _⟩ hL ⟨Iq, H, rfl, hs⟩
   refine oF (b := aw) (o := 0) fl145_0 (fG rfl cG) ?_
   exact oN ⟨rfl, rfl, Iq, H, fS rfl rfl, hs⟩
 · rintro L f w ⟨cF, _⟩ hL ⟨Iq, H, rfl, hs⟩
   refine oL (k := 0) (vs := (cL8 r3.2.1 r3.2.2.1 r3.2.2.2.1 aC s.length aB)) (v := .agg (cL8 r3.2.1 r3.2.2.1 r3.2.2.2.1 aC s.length aB).toArray) hs rfl (fG rfl cF) ty33 rfl rfl rfl ?_
   exact oN ⟨rfl, rfl, Iq, H, fS rfl rfl, hs⟩
 · rintro L f w _ hL ⟨Iq, H, rfl, hs⟩
   refine mP rfl ?_
   exact oN ⟨rfl, rfl, Iq, H, fS rfl rfl, hs⟩
 · rintro L f w ⟨cC, _⟩ hL ⟨Iq, H, rfl, hs⟩
   refine oV (x_nilCheck (fG rfl cC)) rfl ?_
   exact oN ⟨rfl, rfl, Iq, H, fS rfl rfl, hs⟩
 · rintro L f w ⟨cB, _⟩ hL ⟨Iq, H, rfl, hs⟩
   refine oF (b := aw) (o := 0) fl145_1 (fG rfl cB) ?_
   exact oN ⟨rfl, rfl, Iq, H, fS rfl rfl, hs⟩
 · rintro L f w ⟨cA, _⟩ hL ⟨Iq, H, rfl, hs⟩
   refine oF (b := aw) (o := 4) fl46_0 (fG rfl cA) ?_
   exact oN ⟨rfl, rfl, Iq, H, fS rfl rfl, hs⟩
 · rintro L f w ⟨cz, _⟩ hL ⟨Iq, H, rfl, hs⟩
   refine ld1 (k := 0) hs rfl (fG rfl cz) ty3 rfl ?_
   exact oN ⟨rfl, rfl, Iq, H, fS rfl rfl, hs⟩
 · rintro L f w ⟨cE, cy, _⟩ hL ⟨Iq, H, rfl, hs⟩
   replace K := K.mono (a5.trans H)
   refine oC (fi := []) (vs := [.agg (cL8 r3.2.1 r3.2.2.1 r3.2.2.2.1 aC s.length aB).toArray, iN r3.2.2.2.2.1]) (ca := []) rfl ⟨(fG rfl cE), (fG rfl cy), trivial⟩ en63 (f63_ok _ _ _ _ _ cw hs K) ?_
   clear hs; rintro _ w ⟨cI, cq, hs, rfl⟩
   exact oN ⟨rfl, rfl, cI, (H.trans cq), fS rfl rfl, hs⟩
 · rintro L f w _ hL ⟨Iq, H, rfl, hs⟩
   refine mI rfl ?_
   exact oN ⟨rfl, rfl, Iq, H, fS rfl rfl, hs⟩
 rintro L f w hall ⟨cu, aP, rfl, hs⟩
 rw [frL_tt _ rfl hall]
 refine sK <| cw_block ?_
 replace hNz7_px0_9 := hNz7_px0_9.mono aP
 refine cL (S := fun k f ds w => ∃ (m : Int) (Y : Int) (X : Int) (W : Int) (V : Int) (U : Int) (T : Int) (R : List (Int × Int)) (y : List Int) (x : List (T4x)), ∃ (l : Option Addr) (h : Nat) (j : Option Addr) (e : Nat) (d : List Value) (a6 : Im), ds = [] ∧ Im.le cu a6 ∧ f40_l0 s av au ar aq ap ao an am al ak E u D C B t c r3 r8 k m Y X W V U T R y x = some r ∧ Sat a6 (blk aw 145 [iN Y, iN X, iN W, .slice aC s.length aB, iN V, iN U, iN T, .map (some aj), .slice l y.length h, .slice j x.length e] :: mq aj vi64 R :: osl 3 1 l y.length h (y.flatMap e64) :: osl 168 12 j x.length e d :: blk b1 152 (cL11 av au ar aq ap ao an am al ak E Q u.length N D C B O t.length M ay c.length ax aE aA.length aD az) :: F) w ∧ f 0 = pQ aw 0 ∧ f 3 = pQ b1 0 ∧ f 4 = iN r3.1 ∧ f 21 = iN r8 ∧ f 22 = iN m ∧ NN168 a6 x d) ?_ (k := FUEL) ⟨0, r3.2.1, r3.2.2.1, r3.2.2.2.1, r3.2.2.2.2.1, r3.2.2.2.2.2.1, r3.2.2.2.2.2.2.1, r3.2.2.2.2.2.2.2.1, r3.2.2.2.2.2.2.2.2.1, r3.2.2.2.2.2.2.2.2.2, aN, aL, aM, aK, aV, cu, rfl, iR, hm, hs, rfl, rfl, rfl, rfl, rfl, hNz7_px0_9⟩
 clear hm hs
 rintro k f ds w ⟨m, Y, X, W, V, U, T, R, y, x, l, h, j, e, d, a6, rfl, aI, hm, hs, bP, bc, cb, bw, aX, aH⟩
 rcases k with _ | k
 · unfold f40_l0 at hm; cases hm
 unfold f40_l0 at hm
 refine cQ <| cR <| oV (x_lss aX bw) rfl <| oN <| sQR ?_
 by_cases bf : m < r8
 · rw [if_pos bf] at hm
   refine cIt rfl (dT bf) <| cw_skip <| sK ?_
   obtain ⟨q, b3, cp⟩ := bS hm
   replace hm := b3; clear b3
   refine cJ (fun f ds w => ∃ (l : Option Addr) (h : Nat) (j : Option Addr) (e : Nat) (d : List Value) (bz : Im), ds = [] ∧ Im.le a6 bz ∧ Sat bz (blk aw 145 [iN q.1, iN q.2.1, iN q.2.2.1, .slice aC s.length aB, iN q.2.2.2.1, iN q.2.2.2.2.1, iN q.2.2.2.2.2.1, .map (some aj), .slice l q.2.2.2.2.2.2.2.1.length h, .slice j q.2.2.2.2.2.2.2.2.length e] :: mq aj vi64 q.2.2.2.2.2.2.1 :: osl 3 1 l q.2.2.2.2.2.2.2.1.length h (q.2.2.2.2.2.2.2.1.flatMap e64) :: osl 168 12 j q.2.2.2.2.2.2.2.2.length e d :: blk b1 152 (cL11 av au ar aq ap ao an am al ak E Q u.length N D C B O t.length M ay c.length ax aE aA.length aD az) :: F) w ∧ f 0 = pQ aw 0 ∧ f 3 = pQ b1 0 ∧ f 4 = iN r3.1 ∧ f 21 = iN r8 ∧ f 22 = iN m ∧ NN168 bz q.2.2.2.2.2.2.2.2 d) ?_ ?_
   · refine cw_block <| cQ <| cR <| mI aX <| asI rfl <| oN <| sQR <| cR <| mP bP <| oF (b := b1) (o := 0) fl152_0 bc <| oL (k := 4) (vs := (cL9 av au ar aq ap ao an am al ak E Q u.length N D C B O t.length M)) (v := .agg (cL9 av au ar aq ap ao an am al ak E Q u.length N D C B O t.length M).toArray) hs rfl rfl ty42 rfl rfl rfl ?_
     refine mI rfl ?_
     obtain ⟨ah, cn, hm⟩ := bS hm
     replace K := K.mono ((a5.trans aP).trans aI); replace bb := bb.mono ((a5.trans aP).trans aI); replace ba := ba.mono ((a5.trans aP).trans aI)
     refine oC (fi := []) (vs := [pQ aw 0, .agg (cL9 av au ar aq ap ao an am al ak E Q u.length N D C B O t.length M).toArray, iN m]) (ca := []) rfl ⟨rfl, rfl, rfl, trivial⟩ en64 (f64_ok _ _ _ _ _ _ _ _ _ _ _ _ _ _ _ _ _ _ _ _ _ _ _ _ _ _ _ cn hs K aH bb ba) ?_
     clear hs; rintro _ w ⟨b8, br, bl, bq, bk, a9, aU, hs, rfl, hNz430_px0_9⟩
     refine oN <| sK ?_
     obtain ⟨G, b3, co⟩ := bS hm
     replace hm := b3; clear b3
     refine cJ (fun f ds w => ∃ (l : Option Addr) (h : Nat) (j : Option Addr) (e : Nat) (d : List Value) (bT : Im), ds = [] ∧ Im.le b8 bT ∧ Sat bT (blk aw 145 [iN G.1, iN G.2.1, iN G.2.2.1, .slice aC s.length aB, iN G.2.2.2.1, iN G.2.2.2.2.1, iN G.2.2.2.2.2.1, .map (some aj), .slice l G.2.2.2.2.2.2.2.1.length h, .slice j G.2.2.2.2.2.2.2.2.length e] :: mq aj vi64 G.2.2.2.2.2.2.1 :: osl 3 1 l G.2.2.2.2.2.2.2.1.length h (G.2.2.2.2.2.2.2.1.flatMap e64) :: osl 168 12 j G.2.2.2.2.2.2.2.2.length e d :: blk b1 152 (cL11 av au ar aq ap ao an am al ak E Q u.length N D C B O t.length M ay c.length ax aE aA.length aD az) :: F) w ∧ f 0 = pQ aw 0 ∧ f 3 = pQ b1 0 ∧ f 4 = iN r3.1 ∧ f 5 = iN m ∧ f 21 = iN r8 ∧ f 22 = iN m ∧ NN168 bT G.2.2.2.2.2.2.2.2 d) ?_ ?_
     · refine cQ <| cR <| oF (b := b1) (o := 0) fl152_1 bc <| ld1 (k := 4) hs rfl rfl ty150 rfl <| oV (x_len sl150 rfl) rfl <| mI rfl <| oN <| sK <| cw_block ?_
       refine cL (S := fun k f ds w => ∃ (a : Int) (af : Int) (ae : Int) (ad : Int) (ac : Int) (ab : Int) (aa : Int) (Z : List (Int × Int)) (A : List Int) (z : List (T4x)), ∃ (l : Option Addr) (h : Nat) (j : Option Addr) (e : Nat) (d : List Value) (bx : Im), ds = [] ∧ Im.le b8 bx ∧ f40_l1 s c k a af ae ad ac ab aa Z A z = some G ∧ Sat bx (blk aw 145 [iN af, iN ae, iN ad, .slice aC s.length aB, iN ac, iN ab, iN aa, .map (some aj), .slice l A.length h, .slice j z.length e] :: mq aj vi64 Z :: osl 3 1 l A.length h (A.flatMap e64) :: osl 168 12 j z.length e d :: blk b1 152 (cL11 av au ar aq ap ao an am al ak E Q u.length N D C B O t.length M ay c.length ax aE aA.length aD az) :: F) w ∧ f 0 = pQ aw 0 ∧ f 3 = pQ b1 0 ∧ f 4 = iN r3.1 ∧ f 5 = iN m ∧ f 21 = iN r8 ∧ f 22 = iN m ∧ f 31 = .slice ay c.length ax ∧ f 32 = iN (c.length : Int) ∧ f 33 = iN a ∧ NN168 bx z d) ?_ (k := FUEL) ⟨0, ah.1, ah.2.1, ah.2.2.1, ah.2.2.2.1, ah.2.2.2.2.1, ah.2.2.2.2.2.1, ah.2.2.2.2.2.2.1, ah.2.2.2.2.2.2.2.1, ah.2.2.2.2.2.2.2.2, br, bl, bq, bk, a9, b8, rfl, iR, hm, hs, bP, bc, cb, rfl, bw, aX, rfl, rfl, rfl, hNz430_px0_9⟩
       clear hm hs
       rintro k f ds w ⟨a, af, ae, ad, ac, ab, aa, Z, A, z, l, h, j, e, d, bx, rfl, aT, hm, hs, bd, bO, bN, bM, bv, bu, bt, bs, aW, aG⟩
       rcases k with _ | k
       · unfold f40_l1 at hm; cases hm
       unfold f40_l1 at hm
       refine cQ <| cR <| oV (x_lss aW bs) rfl <| oN <| sQR ?_
       by_cases be : a < (c.length : Int)
       · rw [if_pos be] at hm
         refine cIt rfl (dT be) <| cw_skip <| sQR <| cw_block <| cQ <| cR ?_
         have aY := (iS hm).1
         replace hm := (iS hm).2
         replace aS := aS.mono ((((a5.trans aP).trans aI).trans aU).trans aT)
         refine oI (i := a) sl150 ty35 bt aW aY.1 aY.2 (Rs.some aS (by have := aY; omega)) <| oLR (p := a.toNat * 5) (vs := (rL15 (at' c a))) (v := .agg (rL15 (at' c a)).toArray) hs aS rfl ty35 (flat_at (enc := enc35) (sz := 5) (fun _ => rfl) c a aY.1 aY.2 0 5 (by decide)) rfl rfl <| ow_alloc hs ty35 rfl ?_
         clear hs; intro cK w hs
         refine oS (k := 0) (vs := (rL15 (at' c a))) (cs' := (rL15 (at' c a))) hs rfl rfl rfl ty35 rfl rfl (nLe rfl) rfl rfl ?_
         clear hs; intro w hs
         refine oN <| sK <| cR <| mP bd <| oL (k := 0) (vs := (rL15 (at' c a))) (v := .agg (rL15 (at' c a)).toArray) hs rfl rfl ty35 rfl rfl rfl <| oU (vp := [(0, .int .u8 4), (5, .agg (rL15 (at' c a)).toArray)]) (cs := (cL13 4 0 0 0 0 ((at' c a).1) ((at' c a).2.1) ((at' c a).2.2.1) ((at' c a).2.2.2.1) ((at' c a).2.2.2.2) 0 none 0 0)) st168 ty168 ⟨rfl, rfl, rfl, rfl, trivial⟩ rfl ?_
         replace hs := hs.front (k := 4) rfl
         replace hs := hs.front (k := 4) rfl
         replace hs := hs.front (k := 4) rfl
         replace hs := hs.front (k := 4) rfl
         obtain ⟨ag, cm, hm⟩ := bS hm
         replace K := K.mono (aU.trans aT)
         refine oC (fi := []) (vs := [pQ aw 0, .agg (cL13 4 0 0 0 0 ((at' c a).1) ((at' c a).2.1) ((at' c a).2.2.1) ((at' c a).2.2.2.1) ((at' c a).2.2.2.2) 0 none 0 0).toArray]) (ca := []) rfl ⟨rfl, rfl, trivial⟩ en65 (f65_ok _ _ _ _ _ _ _ _ _ _ _ _ _ _ _ _ _ _ _ _ _ _ cm hs K aG (Rs.nil _ _ _)) ?_
         clear hs; rintro _ w ⟨ct, bp, bj, bo, bi, a8, ce, hs, rfl, hNz494_px0_9⟩
         refine oN <| blockK_n <| sK <| cR <| oV (x_add aW rfl) rfl <| mI rfl <| oN ?_
         replace hs := hs.erase 4
         exact lN ⟨k, Nat.lt_succ_self k, w64 (a + 1), ag.1, ag.2.1, ag.2.2.1, ag.2.2.2.1, ag.2.2.2.2.1, ag.2.2.2.2.2.1, ag.2.2.2.2.2.2.1, ag.2.2.2.2.2.2.2.1, ag.2.2.2.2.2.2.2.2, bp, bj, bo, bi, a8, ct, rfl, (aT.trans ce), hm, hs, bd, bO, bN, bM, bv, bu, bt, bs, rfl, hNz494_px0_9⟩
       rw [if_neg be] at hm
       refine cIf rfl (dF be) <| cw_exit <| seqK_x <| loopK_x <| blockK_hit ?_
       obtain rfl := oJ hm
       refine jN ⟨l, h, j, e, d, bx, rfl, aT, hs, bd, bO, bN, bM, bv, bu, aG⟩
     clear hm hs
     rintro f ds w ⟨l, h, j, e, d, bT, rfl, bR, hs, aO, bW, a4, bU, bC, bA, aQ⟩
     replace hm := co
     refine cR <| mP aO <| mP aO <| mI bU <| mI a4 ?_
     obtain ⟨aF, cl, hm⟩ := bS hm
     replace K := K.mono (aU.trans bR)
     refine oC (fi := []) (vs := [pQ aw 0, iN m, iN r3.1, iN 0, iN 0, .int .u8 0]) (ca := []) rfl ⟨rfl, rfl, rfl, rfl, rfl, rfl, trivial⟩ en66 (f66_ok _ _ _ _ _ _ _ _ _ _ _ _ _ _ _ cl hs K aQ) ?_
     clear hs; rintro _ w ⟨cN, a0, aZ, ci, cg, ch, cf, b9, bQ, hs, rfl, hRz500_0, hNz500_px0_9⟩
     refine oU (vp := [(0, .int .u8 2), (7, .slice a0 aF.1.length aZ)]) (cs := (cL13 2 0 0 0 0 0 0 0 0 0 0 a0 aF.1.length aZ)) st168 ty168 ⟨rfl, rfl, rfl, rfl, trivial⟩ rfl ?_
     obtain ⟨aJ, ck, hm⟩ := bS hm
     replace K := K.mono bQ
     refine oC (fi := []) (vs := [pQ aw 0, .agg (cL13 2 0 0 0 0 0 0 0 0 0 0 a0 aF.1.length aZ).toArray]) (ca := []) rfl ⟨rfl, rfl, trivial⟩ en65 (f65_ok _ _ _ _ _ _ _ _ _ _ _ _ _ _ _ _ _ _ _ _ _ _ ck hs K hNz500_px0_9 hRz500_0) ?_
     clear hs; rintro _ w ⟨cr, bn, bh, bm, bg, a7, cd, hs, rfl, hNz505_px0_9⟩
     refine oN <| blockK_n ?_
     obtain rfl := oJ hm
     refine jN ⟨bn, bh, bm, bg, a7, cr, rfl, (((aU.trans bR).trans bQ).trans cd), hs, aO, bW, a4, bC, bA, hNz505_px0_9⟩
   clear hm hs
   rintro f ds w ⟨l, h, j, e, d, bz, rfl, cc, hs, bY, bX, bV, bD, bB, aR⟩
   replace hm := cp
   refine cR <| oV (x_add bB rfl) rfl <| mI rfl <| oN ?_
   exact lN ⟨k, Nat.lt_succ_self k, w64 (m + 1), q.1, q.2.1, q.2.2.1, q.2.2.2.1, q.2.2.2.2.1, q.2.2.2.2.2.1, q.2.2.2.2.2.2.1, q.2.2.2.2.2.2.2.1, q.2.2.2.2.2.2.2.2, l, h, j, e, d, bz, rfl, (aI.trans cc), hm, hs, bY, bX, bV, bD, rfl, aR⟩
 rw [if_neg bf] at hm
 refine cIf rfl (dF bf) <| cw_exit <| seqK_x <| loopK_x <| blockK_hit <| rK (rs := []) (vs := []) (.inl rfl) rfl trivial ?_
 obtain rfl := oJ hm
 replace hs := hs.erase 4
 exact ⟨a6, l, h, j, e, d, ((a5.trans aP).trans aI), hs, rfl, aH⟩
def f39_l0 (x1 : List (Int × Bool)) (aC : Int) (an : List (T2x)) : Nat → Int → (List (Int × Int)) → (List Int) → Option ((List (Int × Int)) × List Int)
  | 0, _, _, _ => none
  | k + 1, e, c, d => (if e < (w64 (aC + (an.length : Int))) then ((if (hasM c e) = true then some (!(getM x1 e false)) else some false).bind fun bA => (if bA = true then (if d.length + [getM c e 0].length ≤ 1099511627776 then (f39_l0 x1 aC an k (w64 (e + 1)) (delM c e) (d ++ [getM c e 0])) else none) else (f39_l0 x1 aC an k (w64 (e + 1)) c d))) else some (c, d))
def f39_m (az : Int) (ay : Int) (ax : Int) (aw : Int) (av : Int) (au : Int) (ar : Int) (aq : Int) (ap : Int) (ao : Int) (ak : Int) (V : List Int) (aj : Int) (ai : Int) (ah : Int) (U : List Bool) (T : List (T1x)) (R : List Int) (ag : Int) (x1 : List (Int × Bool)) (bi : Int) (bh : Int) (aC : Int) (an : List (T2x)) (M : Int) (K : Int) (H : Int) (A : List (T2x)) (G : Int) (E : Int) (D : Int) (aH : List (Int × Int)) (aB : List Int) (t : List (T4x)) : Option ((List (Int × Bool)) × Int × Int × Int × Int × Int × Int × (List (Int × Int)) × List Int × (List (T4x))) :=
  ((f39_l0 x1 aC an FUEL 0 aH aB).bind fun (a9 : (List (Int × Int)) × List Int) => ((f40_m M K H A G E D a9.1 a9.2 t az ay ax aw av au ar aq ap ao ak V aj ai ah U T R ag).bind fun aX => some (x1, aX.1, aX.2.1, aX.2.2.1, aX.2.2.2.1, aX.2.2.2.2.1, aX.2.2.2.2.2.1, aX.2.2.2.2.2.2.1, aX.2.2.2.2.2.2.2.1, aX.2.2.2.2.2.2.2.2)))
theorem f39_ok (az : Int) (ay : Int) (ax : Int) (aw : Int) (av : Int) (au : Int) (ar : Int) (aq : Int) (ap : Int) (ao : Int) (ak : Int) (V : List Int) (aj : Int) (ai : Int) (ah : Int) (U : List Bool) (T : List (T1x)) (R : List Int) (ag : Int) (x1 : List (Int × Bool)) (bi : Int) (bh : Int) (aC : Int) (an : List (T2x)) (M : Int) (K : Int) (H : Int) (A : List (T2x)) (G : Int) (E : Int) (D : Int) (aH : List (Int × Int)) (aB : List Int) (t : List (T4x)) {r : (List (Int × Bool)) × Int × Int × Int × Int × Int × Int × (List (Int × Int)) × List Int × (List (T4x))} (hm : f39_m az ay ax aw av au ar aq ap ao ak V aj ai ah U T R ag x1 bi bh aC an M K H A G E D aH aB t = some r) {af : Option Addr} {ab : Nat} {ae : Option Addr} {aa : Nat} {ad : Option Addr} {Z : Nat} {ac : Option Addr} {W : Nat} {aY : Nat} {bz : Nat} {br : Option Addr} {bp : Nat} {bq : Nat} {z : Nat} {C : Option Addr} {B : Nat} {m : Nat} {aW : Option Addr} {aT : Nat} {x : Option Addr} {u : Nat} {aA : List Value} {I : Im} {F : List HP} {w : World} (hs : Sat I (mq aY vbl x1 :: blk z 145 [iN M, iN K, iN H, .slice C A.length B, iN G, iN E, iN D, .map (some m), .slice aW aB.length aT, .slice x t.length u] :: mq m vi64 aH :: osl 3 1 aW aB.length aT (aB.flatMap e64) :: osl 168 12 x t.length u aA :: F) w) (a4 : Rs I 1 af V.length ab (V.flatMap e64)) (a3 : Rs I 1 ae U.length aa (U.flatMap eB)) (a2 : Rs I 5 ad T.length Z (T.flatMap enc35)) (a1 : Rs I 1 ac R.length W (R.flatMap e64)) (bN : SN42 I br an.length bp an) (bB : Ib I bz 33 (cL8 bi bh aC br an.length bp)) (aN : SN42 I C A.length B A) (aM : NN168 I t aA) (am : Ib I bq 142 [pQ z 0]) :
    CV P 39 [.agg (cL11 az ay ax aw av au ar aq ap ao ak af V.length ab aj ai ah ae U.length aa ad T.length Z ac R.length W ag).toArray, .map (some aY), pQ bz 0, pQ bq 0] w fun v w' => ∃ (J : Im) (ao_px3_0_8 : Option Addr) (co_px3_0_8 : Nat) (ao_px3_0_9 : Option Addr) (co_px3_0_9 : Nat) (so_px3_0_9 : List Value), Im.le I J ∧ Sat J (mq aY vbl r.1 :: blk z 145 [iN r.2.1, iN r.2.2.1, iN r.2.2.2.1, .slice C A.length B, iN r.2.2.2.2.1, iN r.2.2.2.2.2.1, iN r.2.2.2.2.2.2.1, .map (some m), .slice ao_px3_0_8 r.2.2.2.2.2.2.2.2.1.length co_px3_0_8, .slice ao_px3_0_9 r.2.2.2.2.2.2.2.2.2.length co_px3_0_9] :: mq m vi64 r.2.2.2.2.2.2.2.1 :: osl 3 1 ao_px3_0_8 r.2.2.2.2.2.2.2.2.1.length co_px3_0_8 (r.2.2.2.2.2.2.2.2.1.flatMap e64) :: osl 168 12 ao_px3_0_9 r.2.2.2.2.2.2.2.2.2.length co_px3_0_9 so_px3_0_9 :: F) w' ∧ v = .tuple #[] ∧ NN168 J r.2.2.2.2.2.2.2.2.2 so_px3_0_9 := by
 unfold f39_m at hm
 refine cv_of (n := 53) Proofs.Tryz.func39 rfl rfl (nLe rfl) <| cQ <| cR <| oB (v := .agg (cL11 az ay ax aw av au ar aq ap ao ak af V.length ab aj ai ah ae U.length aa ad T.length Z ac R.length W ag).toArray) (cs := (cL11 az ay ax aw av au ar aq ap ao ak af V.length ab aj ai ah ae U.length aa ad T.length Z ac R.length W ag)) hs rfl rfl ?_
 clear hs; intro b1 w hs
 refine oN <| sK ?_
 obtain ⟨a9, bJ, bI⟩ := bS hm
 replace hm := bJ; clear bJ
 refine cJ (fun f ds w => ∃ (l : Option Addr) (j : Nat) (bH : Im), ds = [] ∧ Im.le I bH ∧ Sat bH (blk b1 152 (cL11 az ay ax aw av au ar aq ap ao ak af V.length ab aj ai ah ae U.length aa ad T.length Z ac R.length W ag) :: mq aY vbl x1 :: blk z 145 [iN M, iN K, iN H, .slice C A.length B, iN G, iN E, iN D, .map (some m), .slice l a9.2.length j, .slice x t.length u] :: mq m vi64 a9.1 :: osl 3 1 l a9.2.length j (a9.2.flatMap e64) :: osl 168 12 x t.length u aA :: F) w ∧ f 3 = pQ bq 0 ∧ f 4 = pQ b1 0) ?_ ?_
 · refine cQ <| cR <| oF (b := bz) (o := 0) fl33_2 rfl <| ld1I hs bB rfl ty3 rfl <| oF (b := bz) (o := 0) fl33_3 rfl <| ld1I hs bB rfl ty31 rfl <| oV (x_len sl31 rfl) rfl <| oV (x_add rfl rfl) rfl <| mI rfl <| oN <| sK <| cw_block ?_
   refine cL (S := fun k f ds w => ∃ (e : Int) (c : List (Int × Int)) (d : List Int), ∃ (l : Option Addr) (j : Nat) (bd : Im), ds = [] ∧ Im.le I bd ∧ f39_l0 x1 aC an k e c d = some a9 ∧ Sat bd (blk b1 152 (cL11 az ay ax aw av au ar aq ap ao ak af V.length ab aj ai ah ae U.length aa ad T.length Z ac R.length W ag) :: mq aY vbl x1 :: blk z 145 [iN M, iN K, iN H, .slice C A.length B, iN G, iN E, iN D, .map (some m), .slice l d.length j, .slice x t.length u] :: mq m vi64 c :: osl 3 1 l d.length j (d.flatMap e64) :: osl 168 12 x t.length u aA :: F) w ∧ f 1 = .map (some aY) ∧ f 3 = pQ bq 0 ∧ f 4 = pQ b1 0 ∧ f 14 = iN (w64 (aC + (an.length : Int))) ∧ f 15 = iN e) ?_ (k := FUEL) ⟨0, aH, aB, aW, aT, I, rfl, iR, hm, hs, rfl, rfl, rfl, rfl, rfl⟩
   clear hm hs
   rintro k f ds w ⟨e, c, d, l, j, bd, rfl, a7, hm, hs, a6, aJ, a5, aO, aI⟩
   rcases k with _ | k
   · unfold f39_l0 at hm; cases hm
   unfold f39_l0 at hm
   refine cQ <| cR <| oV (x_lss aI aO) rfl <| oN <| sQR ?_
   by_cases bf : e < (w64 (aC + (an.length : Int)))
   · rw [if_pos bf] at hm
     refine cIt rfl (dT bf) <| cw_skip <| sQR <| cw_block <| cQ <| cR <| mI aI <| asI rfl <| oN <| sQR ?_
     refine cR ?_
     replace am := am.mono a7
     refine ld1I hs am aJ ty142 rfl <| oV (x_nilCheck rfl) rfl <| oF (b := z) (o := 0) fl145_2 rfl <| ld1 (k := 2) hs rfl rfl ty143 rfl <| mI rfl <| ow_lookupQ2 (q := 3) (k := e) (zv := 0) (v := .tuple #[iN (getM c e 0), .bool (hasM c e)]) mt143 mz143 hs rfl rfl rfl rfl <| oV (xM (v := .tuple #[iN (getM c e 0), .bool (hasM c e)]) rfl) rfl <| oV (xE (v := iN (getM c e 0)) rfl rfl) rfl <| oV (xE (v := .bool (hasM c e)) rfl rfl) rfl <| asI rfl <| asB rfl <| oN ?_
     refine sQR <| cR <| mB rfl <| mB rfl ?_
     obtain ⟨bA, aP, hm⟩ := bS hm
     refine oJN 5 (fun f ds w => ∃ (bg : Im), ds = [] ∧ Im.le bd bg ∧ Sat bg (blk b1 152 (cL11 az ay ax aw av au ar aq ap ao ak af V.length ab aj ai ah ae U.length aa ad T.length Z ac R.length W ag) :: mq aY vbl x1 :: blk z 145 [iN M, iN K, iN H, .slice C A.length B, iN G, iN E, iN D, .map (some m), .slice l d.length j, .slice x t.length u] :: mq m vi64 c :: osl 3 1 l d.length j (d.flatMap e64) :: osl 168 12 x t.length u aA :: F) w ∧ f 33 = .bool bA ∧ f 1 = .map (some aY) ∧ f 3 = pQ bq 0 ∧ f 4 = pQ b1 0 ∧ f 6 = iN e ∧ f 7 = iN (getM c e 0) ∧ f 14 = iN (w64 (aC + (an.length : Int))) ∧ f 15 = iN e) ?_ ?_
     · by_cases aD : (hasM c e) = true
       · rw [if_pos aD] at aP
         refine oG (yO rfl rfl aD) <| oV (xM (v := .map (some aY)) a6) rfl <| oG (yO rfl rfl aD) <| mI rfl <| oG (yO rfl rfl aD) <| ow_lookupQ (q := 1) (k := e) (zv := false) (v := .bool (getM x1 e false)) mt153 mz153 hs rfl rfl rfl rfl <| oG (yO rfl rfl aD) <| oV (x_not (b := (getM x1 e false)) rfl) rfl <| oV (xPt (v := .bool (!(getM x1 e false))) ((rfl : ev _ _ _ = _).trans (congrArg Value.bool aD)) rfl) rfl <| oN ?_
         obtain rfl := oJ aP
         exact ⟨bd, rfl, iR, hs, rfl, a6, aJ, a5, rfl, rfl, aO, aI⟩
       rw [if_neg aD] at aP
       refine oO (b := false) (yO rfl rfl (bF aD)) rfl <| oO (b := false) (yO rfl rfl (bF aD)) rfl <| oO (b := false) (yO rfl rfl (bF aD)) rfl <| oO (b := false) (yO rfl rfl (bF aD)) rfl <| oV (xPf (v := .bool false) ((rfl : ev _ _ _ = _).trans (congrArg Value.bool (bF aD))) rfl) rfl <| oN ?_
       obtain rfl := oJ aP
       exact ⟨bd, rfl, iR, hs, rfl, a6, aJ, a5, rfl, rfl, aO, aI⟩
     clear aP hs
     rintro f ds w ⟨bg, rfl, aQ, hs, htbb84, bb, aE, ba, bk, bj, a0, aZ⟩
     refine oN <| sK ?_
     by_cases be : bA = true
     · rw [if_pos be] at hm
       refine cIt htbb84 be <| cQ ?_
       have bK := (iS hm).1
       replace hm := (iS hm).2
       refine cD mixed rfl (fun f0 L f w => ∃ (al : Option Addr) (Q : Option Addr) (O : Nat) (Iq : Im), Im.le bg Iq ∧ f = frL [(34, 0, pQ z 0), (35, 1, pQ z 0), (36, 2, pQ z 0), (37, 3, pQ z 8), (38, 4, .slice l d.length j), (39, 5, iN (getM c e 0)), (40, 6, .slice al ([getM c e 0].length) 1), (41, 7, .slice Q ((d ++ [getM c e 0]).length) O), (42, 8, pQ z 0), (43, 9, pQ z 8)] L f0 ∧ Sat Iq (blk b1 152 (cL11 az ay ax aw av au ar aq ap ao ak af V.length ab aj ai ah ae U.length aa ad T.length Z ac R.length W ag) :: mq aY vbl x1 :: rL [(10, blk z 145 [iN M, iN K, iN H, .slice C A.length B, iN G, iN E, iN D, .map (some m), .slice Q ((d ++ [getM c e 0]).length) O, .slice x t.length u])] (blk z 145 [iN M, iN K, iN H, .slice C A.length B, iN G, iN E, iN D, .map (some m), .slice l d.length j, .slice x t.length u]) L :: mq m vi64 c :: rL [(7, osl 3 1 Q (d ++ [getM c e 0]).length O ((d ++ [getM c e 0]).flatMap e64))] (osl 3 1 l d.length j (d.flatMap e64)) L :: osl 168 12 x t.length u aA :: F) w ∧ (L 6 = true → Rs Iq 1 al [getM c e 0].length 1 ([getM c e 0].flatMap e64)) ∧ (L 10 = true → L 4 = true) ∧ (L 10 = true → L 7 = true)) ⟨none, none, 0, bg, iR, (frL_ff _).symm, hs.drew, (fun h => by cases h), (fun h => by cases h), (fun h => by cases h)⟩ ⟨?_, ?_, ?_, ?_, ?_, ?_, ?_, ?_, ?_, ?_, ?_, trivial⟩ ?_
       all_goals clear hs
       · rintro L f w _ hL ⟨al, Q, O, Iq, N, rfl, hs, y, s, p⟩
         replace am := am.mono (aQ.trans N)
         refine ld1I hs am aE ty142 rfl ?_
         exact oN ⟨rfl, rfl, al, Q, O, Iq, N, fS rfl rfl, hs, (fun h => y h), s, p⟩
       · rintro L f w _ hL ⟨al, Q, O, Iq, N, rfl, hs, y, s, p⟩
         replace am := am.mono (aQ.trans N)
         refine ld1I hs am aE ty142 rfl ?_
         exact oN ⟨rfl, rfl, al, Q, O, Iq, N, fS rfl rfl, hs, (fun h => y h), s, p⟩
       · rintro L f w ⟨bx, _⟩ hL ⟨al, Q, O, Iq, N, rfl, hs, y, s, p⟩
         refine oV (x_nilCheck (fG rfl bx)) rfl ?_
         exact oN ⟨rfl, rfl, al, Q, O, Iq, N, fS rfl rfl, hs, (fun h => y h), s, p⟩
       · rintro L f w ⟨bw, _⟩ hL ⟨al, Q, O, Iq, N, rfl, hs, y, s, p⟩
         refine oF (b := z) (o := 0) fl145_3 (fG rfl bw) ?_
         exact oN ⟨rfl, rfl, al, Q, O, Iq, N, fS rfl rfl, hs, (fun h => y h), s, p⟩
       · rintro L f w ⟨bv, _⟩ hL ⟨al, Q, O, Iq, N, rfl, hs, y, s, p⟩
         replace hs := hs.eqv (k := 2) rfl ((rL_f (show L 10 = false from pF s hL) (rL_n)))
         refine ld1 (k := 2) hs rfl (fG rfl bv) ty24 rfl ?_
         replace hs := hs.eqv (k := 2) rfl (Eq.symm (a := rL [(10, blk z 145 [iN M, iN K, iN H, .slice C A.length B, iN G, iN E, iN D, .map (some m), .slice Q ((d ++ [getM c e 0]).length) O, .slice x t.length u])] (blk z 145 [iN M, iN K, iN H, .slice C A.length B, iN G, iN E, iN D, .map (some m), .slice l d.length j, .slice x t.length u]) (setL L 4)) (((rL_f (L := setL L 4) (show L 10 = false from pF s hL) (rL_n)))))
         exact oN ⟨rfl, rfl, al, Q, O, Iq, N, fS rfl rfl, hs, (fun h => y h), (fun _ => rfl), p⟩
       · rintro L f w _ hL ⟨al, Q, O, Iq, N, rfl, hs, y, s, p⟩
         refine mI bj ?_
         exact oN ⟨rfl, rfl, al, Q, O, Iq, N, fS rfl rfl, hs, (fun h => y h), s, p⟩
       · rintro L f w ⟨bu, _⟩ hL ⟨al, Q, O, Iq, N, rfl, hs, y, s, p⟩
         refine ow_buildSlice (vp := [(0, iN (getM c e 0))]) (cs := [iN (getM c e 0)]) hs sl24 ty3 rfl ⟨rfl, (fG rfl bu), trivial⟩ (by decide) rfl (by decide) ?_
         clear hs; intro al bL w bD hs aG
         replace aG : Rs bL 1 al [getM c e 0].length 1 ([getM c e 0].flatMap e64) := aG
         exact oN ⟨rfl, rfl, al, Q, O, bL, (N.trans bD), (Eq.trans (fSG (i := 6) rfl rfl) (rfl)), hs, (fun _ => aG), s, p⟩
       · rintro L f w ⟨bo, bc, _⟩ hL ⟨al, Q, O, Iq, N, rfl, hs, y, s, p⟩
         have aG := y bc
         replace hs := hs.eqv (k := 4) rfl ((rL_f hL (rL_n)))
         replace hs := hs.eqv (k := 2) rfl ((rL_f (show L 10 = false from pF p hL) (rfl)))
         refine ow_appendT (k := 4) (enc := e64) (X := d) (Y := [getM c e 0]) hs rfl sl24 ty3 el3 rfl (fG rfl bo) (fG rfl bc) aG (fun _ => rfl) bK (by decide) ?_
         clear hs; intro Q O w hs
         replace hs := hs.eqv (k := 2) rfl (Eq.symm (a := rL [(10, blk z 145 [iN M, iN K, iN H, .slice C A.length B, iN G, iN E, iN D, .map (some m), .slice Q ((d ++ [getM c e 0]).length) O, .slice x t.length u])] (blk z 145 [iN M, iN K, iN H, .slice C A.length B, iN G, iN E, iN D, .map (some m), .slice l d.length j, .slice x t.length u]) (setL L 7)) (((rL_f (L := setL L 7) (show L 10 = false from pF p hL) (rfl)))))
         exact oN ⟨rfl, rfl, al, Q, O, Iq, N, (Eq.trans (fSG (i := 7) rfl rfl) (rfl)), hs, (fun h => y h), s, (fun _ => rfl)⟩
       · rintro L f w ⟨bE, _, bx, bw, bv, bo, bu, bc, bt, _⟩ hL ⟨al, Q, O, Iq, N, rfl, hs, y, s, p⟩
         have aG := y bc
         refine oV (x_nilCheck (fG rfl bE)) rfl ?_
         exact oN ⟨rfl, rfl, al, Q, O, Iq, N, fS rfl rfl, hs, (fun h => y h), s, p⟩
       · rintro L f w ⟨bP, bE, bx, bw, bv, bo, bu, bc, bt, _⟩ hL ⟨al, Q, O, Iq, N, rfl, hs, y, s, p⟩
         have aG := y bc
         refine oF (b := z) (o := 0) fl145_3 (fG rfl bP) ?_
         exact oN ⟨rfl, rfl, al, Q, O, Iq, N, fS rfl rfl, hs, (fun h => y h), s, p⟩
       · rintro L f w ⟨bO, bt, _, bE, bx, bw, bv, bo, bu, bc, _, _⟩ hL ⟨al, Q, O, Iq, N, rfl, hs, y, s, p⟩
         have aG := y bc
         replace hs := hs.eqv (k := 2) rfl ((rL_f hL (rL_n)))
         refine oS (k := 2) (vs := [.slice Q ((d ++ [getM c e 0]).length) O]) (cs' := [iN M, iN K, iN H, .slice C A.length B, iN G, iN E, iN D, .map (some m), .slice Q ((d ++ [getM c e 0]).length) O, .slice x t.length u]) hs rfl (fG rfl bO) (fG rfl bt) ty24 rfl rfl (nLe rfl) rfl rfl ?_
         clear hs; intro w hs
         exact oN ⟨rfl, rfl, al, Q, O, Iq, N, frL_no rfl, hs, (fun h => y h), (fun _ => bo), (fun _ => bt)⟩
       rintro L f w hall ⟨al, Q, O, bQ, bn, rfl, hs, aG, _, _⟩
       rw [frL_tt _ rfl hall]
       replace hs := hs.eqv (k := 2) rfl (rL_t (hall 10 (nLe rfl)))
       replace hs := hs.eqv (k := 4) rfl (rL_t (hall 7 (nLe rfl)))
       replace aG := aG (hall 6 (nLe rfl))
       refine sK <| cR ?_
       replace am := am.mono (aQ.trans bn)
       refine ld1I hs am aE ty142 rfl <| oV (x_nilCheck rfl) rfl <| oF (b := z) (o := 0) fl145_2 rfl <| ld1 (k := 2) hs rfl rfl ty143 rfl <| mI bk <| ow_delQ (q := 3) (k := e) mt143 hs rfl rfl rfl ?_
       clear hs; intro w hs
       refine oN <| blockK_n <| sK <| cR <| oV (x_add aZ rfl) rfl <| mI rfl <| oN ?_
       exact lN ⟨k, Nat.lt_succ_self k, w64 (e + 1), delM c e, d ++ [getM c e 0], Q, O, bQ, rfl, ((a7.trans aQ).trans bn), hm, hs, bb, aE, ba, a0, rfl⟩
     rw [if_neg be] at hm
     refine cIf htbb84 (bF be) <| cw_skip <| blockK_n <| sK <| cR <| oV (x_add aZ rfl) rfl <| mI rfl <| oN ?_
     exact lN ⟨k, Nat.lt_succ_self k, w64 (e + 1), c, d, l, j, bg, rfl, (a7.trans aQ), hm, hs, bb, aE, ba, a0, rfl⟩
   rw [if_neg bf] at hm
   refine cIf rfl (dF bf) <| cw_exit <| seqK_x <| loopK_x <| blockK_hit ?_
   obtain rfl := oJ hm
   refine jN ⟨l, j, bd, rfl, a7, hs, aJ, a5⟩
 clear hm hs
 rintro f ds w ⟨l, j, bH, rfl, aF, hs, bm, bl⟩
 replace hm := bI
 refine cR ?_
 replace am := am.mono aF
 refine ld1I hs am bm ty142 rfl <| oL (k := 0) (vs := (cL11 az ay ax aw av au ar aq ap ao ak af V.length ab aj ai ah ae U.length aa ad T.length Z ac R.length W ag)) (v := .agg (cL11 az ay ax aw av au ar aq ap ao ak af V.length ab aj ai ah ae U.length aa ad T.length Z ac R.length W ag).toArray) hs rfl bl ty152 rfl rfl rfl ?_
 replace hs := hs.front (k := 5) rfl
 replace hs := hs.front (k := 5) rfl
 replace hs := hs.front (k := 5) rfl
 replace hs := hs.front (k := 5) rfl
 obtain ⟨aX, bC, hm⟩ := bS hm
 replace a4 := a4.mono aF; replace a3 := a3.mono aF; replace a2 := a2.mono aF; replace a1 := a1.mono aF; replace aN := aN.mono aF; replace aM := aM.mono aF
 refine oC (fi := []) (vs := [pQ z 0, .agg (cL11 az ay ax aw av au ar aq ap ao ak af V.length ab aj ai ah ae U.length aa ad T.length Z ac R.length W ag).toArray]) (ca := []) rfl ⟨rfl, rfl, trivial⟩ en40 (f40_ok _ _ _ _ _ _ _ _ _ _ _ _ _ _ _ _ _ _ _ _ _ _ _ _ _ _ _ _ _ bC hs aN aM a4 a3 a2 a1) ?_
 clear hs; rintro _ w ⟨bM, aV, aS, aU, aR, aL, bs, hs, rfl, hNz103_px3_0_9⟩
 refine oN <| rK (rs := []) (vs := []) (.inl rfl) rfl trivial ?_
 obtain rfl := oJ hm
 replace hs := hs.erase 4
 replace hs := hs.front (k := 3) rfl
 replace hs := hs.front (k := 3) rfl
 replace hs := hs.front (k := 3) rfl
 replace hs := hs.front (k := 3) rfl
 replace hs := hs.front (k := 4) rfl
 exact ⟨bM, aV, aS, aU, aR, aL, (aF.trans bs), hs, rfl, hNz103_px3_0_9⟩
def f38a_l0 (W : Int) (r8 : List (Int × Int)) : Nat → Int → (List (Int × Bool)) → Option (List (Int × Bool))
  | 0, _, _ => none
  | k + 1, A, ab => (if A < W then (if 0 < (getM r8 A 0) then (f38a_l0 W r8 k (w64 (A + 1)) (upM ab A true)) else (f38a_l0 W r8 k (w64 (A + 1)) ab)) else some ab)
def f38a_l2 (H : List (T3x)) (a : Int) : Nat → Int → (List (Int × Bool)) → (List (Int × Int)) → Option ((List (Int × Bool)) × (List (Int × Int)))
  | 0, _, _, _ => none
  | k + 1, c, aa, d => (if c < (((at' H a).2.2.2.2.2.2.2.2.2.2.2.2.2.2.2.2.2.1).length : Int) then (if 0 ≤ c ∧ c < (((at' H a).2.2.2.2.2.2.2.2.2.2.2.2.2.2.2.2.2.1).length : Int) then (if (getM (upM d (at' ((at' H a).2.2.2.2.2.2.2.2.2.2.2.2.2.2.2.2.2.1) c) (w64 ((getM d (at' ((at' H a).2.2.2.2.2.2.2.2.2.2.2.2.2.2.2.2.2.1) c) 0) - 1))) (at' ((at' H a).2.2.2.2.2.2.2.2.2.2.2.2.2.2.2.2.2.1) c) 0) = 0 then (f38a_l2 H a k (w64 (c + 1)) (delM aa (at' ((at' H a).2.2.2.2.2.2.2.2.2.2.2.2.2.2.2.2.2.1) c)) (upM d (at' ((at' H a).2.2.2.2.2.2.2.2.2.2.2.2.2.2.2.2.2.1) c) (w64 ((getM d (at' ((at' H a).2.2.2.2.2.2.2.2.2.2.2.2.2.2.2.2.2.1) c) 0) - 1)))) else (f38a_l2 H a k (w64 (c + 1)) aa (upM d (at' ((at' H a).2.2.2.2.2.2.2.2.2.2.2.2.2.2.2.2.2.1) c) (w64 ((getM d (at' ((at' H a).2.2.2.2.2.2.2.2.2.2.2.2.2.2.2.2.2.1) c) 0) - 1))))) else none) else some (aa, d))
def f38a_l1 (aB : Int) (aA : Int) (az : Int) (aw : List (T2x)) (j : List (T2x)) (H : List (T3x)) : Nat → Int → (List (Int × Bool)) → (List (Int × Int)) → Int → Int → Int → Int → Int → Int → (List (Int × Int)) → (List Int) → (List (T4x)) → Option (Int × Int × Int × Int × Int × Int × (List (Int × Int)) × List Int × (List (T4x)))
  | 0, _, _, _, _, _, _, _, _, _, _, _, _ => none
  | k + 1, a, aE, Z, R, Q, O, N, M, L, K, y, x => (if a < (H.length : Int) then ((if 0 ≤ a ∧ a < (H.length : Int) then ((f39_m ((at' H a).1) ((at' H a).2.1) ((at' H a).2.2.1) ((at' H a).2.2.2.1) ((at' H a).2.2.2.2.1) ((at' H a).2.2.2.2.2.1) ((at' H a).2.2.2.2.2.2.1) ((at' H a).2.2.2.2.2.2.2.1) ((at' H a).2.2.2.2.2.2.2.2.1) ((at' H a).2.2.2.2.2.2.2.2.2.1) ((at' H a).2.2.2.2.2.2.2.2.2.2.1) ((at' H a).2.2.2.2.2.2.2.2.2.2.2.1) ((at' H a).2.2.2.2.2.2.2.2.2.2.2.2.1) ((at' H a).2.2.2.2.2.2.2.2.2.2.2.2.2.1) ((at' H a).2.2.2.2.2.2.2.2.2.2.2.2.2.2.1) ((at' H a).2.2.2.2.2.2.2.2.2.2.2.2.2.2.2.1) ((at' H a).2.2.2.2.2.2.2.2.2.2.2.2.2.2.2.2.1) ((at' H a).2.2.2.2.2.2.2.2.2.2.2.2.2.2.2.2.2.1) ((at' H a).2.2.2.2.2.2.2.2.2.2.2.2.2.2.2.2.2.2) (upM aE ((at' H a).2.2.2.2.2.2.2.2.2.2.2.2.2.2.2.2.2.2) true) aB aA az aw R Q O j N M L K y x).bind fun e => ((f38a_l2 H a FUEL 0 e.1 Z).bind fun (aH : (List (Int × Bool)) × (List (Int × Int))) => (if (getM aH.2 ((at' H a).2.2.2.2.2.2.2.2.2.2.2.2.2.2.2.2.2.2) 0) = 0 then some (delM aH.1 ((at' H a).2.2.2.2.2.2.2.2.2.2.2.2.2.2.2.2.2.2), aH.2, e.2.1, e.2.2.1, e.2.2.2.1, e.2.2.2.2.1, e.2.2.2.2.2.1, e.2.2.2.2.2.2.1, e.2.2.2.2.2.2.2.1, e.2.2.2.2.2.2.2.2.1, e.2.2.2.2.2.2.2.2.2) else some (aH.1, aH.2, e.2.1, e.2.2.1, e.2.2.2.1, e.2.2.2.2.1, e.2.2.2.2.2.1, e.2.2.2.2.2.2.1, e.2.2.2.2.2.2.2.1, e.2.2.2.2.2.2.2.2.1, e.2.2.2.2.2.2.2.2.2)))) else none).bind fun (z : (List (Int × Bool)) × (List (Int × Int)) × Int × Int × Int × Int × Int × Int × (List (Int × Int)) × List Int × (List (T4x))) => (f38a_l1 aB aA az aw j H k (w64 (a + 1)) z.1 z.2.1 z.2.2.1 z.2.2.2.1 z.2.2.2.2.1 z.2.2.2.2.2.1 z.2.2.2.2.2.2.1 z.2.2.2.2.2.2.2.1 z.2.2.2.2.2.2.2.2.1 z.2.2.2.2.2.2.2.2.2.1 z.2.2.2.2.2.2.2.2.2.2)) else some (R, Q, O, N, M, L, K, y, x))
def f38a_m (al : Int) (ak : Int) (W : Int) (af : List (T2x)) (aB : Int) (aA : Int) (az : Int) (aw : List (T2x)) (av : Int) (au : Int) (ar : Int) (j : List (T2x)) (aq : Int) (ap : Int) (ao : Int) (an : List (Int × Int)) (B : List Int) (U : List (T4x)) : Option (Int × Int × Int × Int × Int × Int × (List (Int × Int)) × List Int × (List (T4x))) :=
  ((f36_m al ak W af).bind fun H => ((f35_m al ak W af H).bind fun r8 => ((f38a_l0 W r8 FUEL 0 ([] : List (Int × Bool))).bind fun (b0 : List (Int × Bool)) => (f38a_l1 aB aA az aw j H FUEL 0 b0 r8 av au ar aq ap ao an B U))))
theorem f38a_ok (al : Int) (ak : Int) (W : Int) (af : List (T2x)) (aB : Int) (aA : Int) (az : Int) (aw : List (T2x)) (av : Int) (au : Int) (ar : Int) (j : List (T2x)) (aq : Int) (ap : Int) (ao : Int) (an : List (Int × Int)) (B : List Int) (U : List (T4x)) {r : Int × Int × Int × Int × Int × Int × (List (Int × Int)) × List Int × (List (T4x))} (hm : f38a_m al ak W af aB aA az aw av au ar j aq ap ao an B U = some r) {ae : Option Addr} {ad : Nat} {aD : Nat} {bK : Option Addr} {bJ : Nat} {aC : Nat} {am : Nat} {Y : Option Addr} {X : Nat} {h : Nat} {aj : Option Addr} {ah : Nat} {ai : Option Addr} {ag : Nat} {ay : List Value} {I : Im} {F : List HP} {w : World} (hs : Sat I (blk am 145 [iN av, iN au, iN ar, .slice Y j.length X, iN aq, iN ap, iN ao, .map (some h), .slice aj B.length ah, .slice ai U.length ag] :: mq h vi64 an :: osl 3 1 aj B.length ah (B.flatMap e64) :: osl 168 12 ai U.length ag ay :: F) w) (br : SN42 I ae af.length ad af) (a8 : SN42 I bK aw.length bJ aw) (bE : Ib I aD 33 (cL8 aB aA az bK aw.length bJ)) (aM : SN42 I Y j.length X j) (aL : NN168 I U ay) (bD : Ib I aC 142 [pQ am 0]) :
    CV P 38 [.agg (cL8 al ak W ae af.length ad).toArray, .func (.func 39) #[] #[pQ aD 0, pQ aC 0]] w fun v w' => ∃ (J : Im) (ao_px1k1_0_8 : Option Addr) (co_px1k1_0_8 : Nat) (ao_px1k1_0_9 : Option Addr) (co_px1k1_0_9 : Nat) (so_px1k1_0_9 : List Value), Im.le I J ∧ Sat J (blk am 145 [iN r.1, iN r.2.1, iN r.2.2.1, .slice Y j.length X, iN r.2.2.2.1, iN r.2.2.2.2.1, iN r.2.2.2.2.2.1, .map (some h), .slice ao_px1k1_0_8 r.2.2.2.2.2.2.2.1.length co_px1k1_0_8, .slice ao_px1k1_0_9 r.2.2.2.2.2.2.2.2.length co_px1k1_0_9] :: mq h vi64 r.2.2.2.2.2.2.1 :: osl 3 1 ao_px1k1_0_8 r.2.2.2.2.2.2.2.1.length co_px1k1_0_8 (r.2.2.2.2.2.2.2.1.flatMap e64) :: osl 168 12 ao_px1k1_0_9 r.2.2.2.2.2.2.2.2.length co_px1k1_0_9 so_px1k1_0_9 :: F) w' ∧ v = .tuple #[] ∧ NN168 J r.2.2.2.2.2.2.2.2 so_px1k1_0_9 := by
 unfold f38a_m at hm
 refine cv_of (n := 70) Proofs.Tryz.func38 rfl rfl (nLe rfl) <| cQ <| cR <| oB (v := .agg (cL8 al ak W ae af.length ad).toArray) (cs := (cL8 al ak W ae af.length ad)) hs rfl rfl ?_
 clear hs; intro b1 w hs
 refine oN <| sQR <| cR <| oL (k := 0) (vs := (cL8 al ak W ae af.length ad)) (v := .agg (cL8 al ak W ae af.length ad).toArray) hs rfl rfl ty33 rfl rfl rfl ?_
 obtain ⟨H, cl, hm⟩ := bS hm
 refine oC (fi := []) (vs := [.agg (cL8 al ak W ae af.length ad).toArray]) (ca := []) rfl ⟨rfl, trivial⟩ en36 (f36_ok _ _ _ _ cl hs br) ?_
 clear hs; rintro _ w ⟨J5, aQ, aP, bj, hs, rfl, hRz7_0⟩
 refine asS rfl <| oN <| sQR <| cR <| oL (k := 0) (vs := (cL8 al ak W ae af.length ad)) (v := .agg (cL8 al ak W ae af.length ad).toArray) hs rfl rfl ty33 rfl rfl rfl <| mS rfl ?_
 obtain ⟨r8, ck, hm⟩ := bS hm
 replace br := br.mono bj
 refine oC (fi := []) (vs := [.agg (cL8 al ak W ae af.length ad).toArray, .slice aQ H.length aP]) (ca := []) rfl ⟨rfl, rfl, trivial⟩ en35 (f35_ok _ _ _ _ _ ck hs br hRz7_0) ?_
 clear hs; rintro _ w ⟨ci, T, aO, hs, rfl⟩
 refine oV (xA (v := .map (some T)) rfl) rfl <| oN <| sQR <| cR <| ow_makeMapQ (V := Bool) (vv := vbl) mt153 hs ?_
 clear hs; intro aF w hs
 refine oV (xA (v := .map (some aF)) rfl) rfl <| oN <| sK ?_
 obtain ⟨b0, bI, cj⟩ := bS hm
 replace hm := bI; clear bI
 refine cJ (fun f ds w => ∃ (b7 : Im), ds = [] ∧ Im.le ci b7 ∧ Sat b7 (mq aF vbl b0 :: mq T vi64 r8 :: blk b1 33 (cL8 al ak W ae af.length ad) :: blk am 145 [iN av, iN au, iN ar, .slice Y j.length X, iN aq, iN ap, iN ao, .map (some h), .slice aj B.length ah, .slice ai U.length ag] :: mq h vi64 an :: osl 3 1 aj B.length ah (B.flatMap e64) :: osl 168 12 ai U.length ag ay :: F) w ∧ f 1 = .func (.func 39) #[] #[pQ aD 0, pQ aC 0] ∧ f 4 = .slice aQ H.length aP ∧ f 5 = .map (some T) ∧ f 6 = .map (some aF)) ?_ ?_
 · refine cQ <| cR <| oF (b := b1) (o := 0) fl33_2 rfl <| ld1 (k := 2) hs rfl rfl ty3 rfl <| mI rfl <| oN <| sK <| cw_block ?_
   refine cL (S := fun k f ds w => ∃ (A : Int) (ab : List (Int × Bool)), ∃ (bZ : Im), ds = [] ∧ Im.le ci bZ ∧ f38a_l0 W r8 k A ab = some b0 ∧ Sat bZ (mq aF vbl ab :: mq T vi64 r8 :: blk b1 33 (cL8 al ak W ae af.length ad) :: blk am 145 [iN av, iN au, iN ar, .slice Y j.length X, iN aq, iN ap, iN ao, .map (some h), .slice aj B.length ah, .slice ai U.length ag] :: mq h vi64 an :: osl 3 1 aj B.length ah (B.flatMap e64) :: osl 168 12 ai U.length ag ay :: F) w ∧ f 1 = .func (.func 39) #[] #[pQ aD 0, pQ aC 0] ∧ f 4 = .slice aQ H.length aP ∧ f 5 = .map (some T) ∧ f 6 = .map (some aF) ∧ f 19 = iN W ∧ f 20 = iN A) ?_ (k := FUEL) ⟨0, ([] : List (Int × Bool)), ci, rfl, iR, hm, hs, rfl, rfl, rfl, rfl, rfl, rfl⟩
   clear hm hs
   rintro k f ds w ⟨A, ab, bZ, rfl, bQ, hm, hs, bw, bu, a5, a4, bi, aT⟩
   rcases k with _ | k
   · unfold f38a_l0 at hm; cases hm
   unfold f38a_l0 at hm
   refine cQ <| cR <| oV (x_lss aT bi) rfl <| oN <| sQR ?_
   by_cases bU : A < W
   · rw [if_pos bU] at hm
     refine cIt rfl (dT bU) <| cw_skip <| sQR <| cw_block <| cQ <| cR <| mI aT <| asI rfl <| oN <| sQR ?_
     refine cR <| oV (xM (v := .map (some T)) a5) rfl <| mI rfl <| ow_lookupQ (q := 1) (k := A) (zv := 0) (v := iN (getM r8 A 0)) mt143 mz143 hs rfl rfl rfl rfl <| oV (x_gtr rfl rfl) rfl <| oN <| sK ?_
     by_cases bT : 0 < (getM r8 A 0)
     · rw [if_pos bT] at hm
       refine cIt rfl (dT bT) <| cR <| oV (xM (v := .map (some aF)) a4) rfl <| mI rfl <| ow_updQ (q := 0) (k := A) (v := true) mt153 hs rfl rfl rfl rfl ?_
       clear hs; intro w hs
       refine oN <| blockK_n <| sK <| cR <| oV (x_add aT rfl) rfl <| mI rfl <| oN ?_
       exact lN ⟨k, Nat.lt_succ_self k, w64 (A + 1), upM ab A true, bZ, rfl, bQ, hm, hs, bw, bu, a5, a4, bi, rfl⟩
     rw [if_neg bT] at hm
     refine cIf rfl (dF bT) <| cw_skip <| blockK_n <| sK <| cR <| oV (x_add aT rfl) rfl <| mI rfl <| oN ?_
     exact lN ⟨k, Nat.lt_succ_self k, w64 (A + 1), ab, bZ, rfl, bQ, hm, hs, bw, bu, a5, a4, bi, rfl⟩
   rw [if_neg bU] at hm
   refine cIf rfl (dF bU) <| cw_exit <| seqK_x <| loopK_x <| blockK_hit ?_
   obtain rfl := oJ hm
   refine jN ⟨bZ, rfl, bQ, hs, bw, bu, a5, a4⟩
 clear hm hs
 rintro f ds w ⟨b7, rfl, aN, hs, b5, b4, b3, b2⟩
 replace hm := cj
 refine cQ <| cR <| mS b4 <| oV (x_len sl147 rfl) rfl <| mI rfl <| oN <| sK <| cw_block ?_
 replace aL := aL.mono ((bj.trans aO).trans aN)
 refine cL (S := fun k f ds w => ∃ (a : Int) (aE : List (Int × Bool)) (Z : List (Int × Int)) (R : Int) (Q : Int) (O : Int) (N : Int) (M : Int) (L : Int) (K : List (Int × Int)) (y : List Int) (x : List (T4x)), ∃ (u : Option Addr) (s : Nat) (t : Option Addr) (m : Nat) (l : List Value) (bq : Im), ds = [] ∧ Im.le b7 bq ∧ f38a_l1 aB aA az aw j H k a aE Z R Q O N M L K y x = some r ∧ Sat bq (mq aF vbl aE :: mq T vi64 Z :: blk b1 33 (cL8 al ak W ae af.length ad) :: blk am 145 [iN R, iN Q, iN O, .slice Y j.length X, iN N, iN M, iN L, .map (some h), .slice u y.length s, .slice t x.length m] :: mq h vi64 K :: osl 3 1 u y.length s (y.flatMap e64) :: osl 168 12 t x.length m l :: F) w ∧ f 1 = .func (.func 39) #[] #[pQ aD 0, pQ aC 0] ∧ f 5 = .map (some T) ∧ f 6 = .map (some aF) ∧ f 30 = .slice aQ H.length aP ∧ f 31 = iN (H.length : Int) ∧ f 32 = iN a ∧ NN168 bq x l) ?_ (k := FUEL) ⟨0, b0, r8, av, au, ar, aq, ap, ao, an, B, U, aj, ah, ai, ag, ay, b7, rfl, iR, hm, hs, b5, b3, b2, rfl, rfl, rfl, aL⟩
 clear hm hs
 rintro k f ds w ⟨a, aE, Z, R, Q, O, N, M, L, K, y, x, u, s, t, m, l, bq, rfl, aG, hm, hs, bR, b8, bt, bH, bG, bd, ax⟩
 rcases k with _ | k
 · unfold f38a_l1 at hm; cases hm
 unfold f38a_l1 at hm
 refine cQ <| cR <| oV (x_lss bd bG) rfl <| oN <| sQR ?_
 by_cases bC : a < (H.length : Int)
 · rw [if_pos bC] at hm
   refine cIt rfl (dT bC) <| cw_skip <| sK ?_
   obtain ⟨z, bI, cd⟩ := bS hm
   replace hm := bI; clear bI
   refine cJ (fun f ds w => ∃ (u : Option Addr) (s : Nat) (t : Option Addr) (m : Nat) (l : List Value) (bM : Im), ds = [] ∧ Im.le bq bM ∧ Sat bM (mq aF vbl z.1 :: mq T vi64 z.2.1 :: blk b1 33 (cL8 al ak W ae af.length ad) :: blk am 145 [iN z.2.2.1, iN z.2.2.2.1, iN z.2.2.2.2.1, .slice Y j.length X, iN z.2.2.2.2.2.1, iN z.2.2.2.2.2.2.1, iN z.2.2.2.2.2.2.2.1, .map (some h), .slice u z.2.2.2.2.2.2.2.2.2.1.length s, .slice t z.2.2.2.2.2.2.2.2.2.2.length m] :: mq h vi64 z.2.2.2.2.2.2.2.2.1 :: osl 3 1 u z.2.2.2.2.2.2.2.2.2.1.length s (z.2.2.2.2.2.2.2.2.2.1.flatMap e64) :: osl 168 12 t z.2.2.2.2.2.2.2.2.2.2.length m l :: F) w ∧ f 1 = .func (.func 39) #[] #[pQ aD 0, pQ aC 0] ∧ f 5 = .map (some T) ∧ f 6 = .map (some aF) ∧ f 30 = .slice aQ H.length aP ∧ f 31 = iN (H.length : Int) ∧ f 32 = iN a ∧ NN168 bM z.2.2.2.2.2.2.2.2.2.2 l) ?_ ?_
   · refine cw_block <| cQ <| cR ?_
     have bl := (iS hm).1
     replace hm := (iS hm).2
     replace hRz7_0 := hRz7_0.mono ((aO.trans aN).trans aG)
     refine oI (i := a) sl147 ty152 bH bd bl.1 bl.2 (SN152.some hRz7_0 (by have := bl; omega)) ?_
     obtain ⟨csu275, hru275, hnu275⟩ := (id hRz7_0)
     obtain ⟨vsu275, hvu275, aZ, aW, aY, aV, aX, aU, aK, aJ, rfl, cg, cf, ce, bm⟩ := NL.at rl152.len hnu275 bl.1 bl.2
     refine oLR (p := a.toNat * 19) (vs := (rL12 (at' H a) aZ aW aY aV aX aU aK aJ)) (v := .agg (rL12 (at' H a) aZ aW aY aV aX aU aK aJ).toArray) hs hru275 rfl ty152 ((cells_part hvu275 0 19 (by decide)).trans rfl) rfl rfl <| ow_alloc hs ty152 rfl ?_
     clear hs; intro a2 w hs
     refine oS (k := 0) (vs := (rL12 (at' H a) aZ aW aY aV aX aU aK aJ)) (cs' := (rL12 (at' H a) aZ aW aY aV aX aU aK aJ)) hs rfl rfl rfl ty152 rfl rfl (nLe rfl) rfl rfl ?_
     clear hs; intro w hs
     refine oN <| sQR <| cR <| oV (xM (v := .map (some aF)) bt) rfl <| oF (b := a2) (o := 0) fl152_3 rfl <| ld1 (k := 0) hs rfl rfl ty3 rfl <| ow_updQ (q := 1) (k := ((at' H a).2.2.2.2.2.2.2.2.2.2.2.2.2.2.2.2.2.2)) (v := true) mt153 hs rfl rfl rfl rfl ?_
     clear hs; intro w hs
     refine oN <| sQR <| cR <| oV (xM (v := .func (.func 39) #[] #[pQ aD 0, pQ aC 0]) bR) rfl <| oL (k := 0) (vs := (rL12 (at' H a) aZ aW aY aV aX aU aK aJ)) (v := .agg (rL12 (at' H a) aZ aW aY aV aX aU aK aJ).toArray) hs rfl rfl ty152 rfl rfl rfl <| oV (xM (v := .map (some aF)) bt) rfl ?_
     replace hs := hs.front (k := 7) rfl
     replace hs := hs.front (k := 7) rfl
     replace hs := hs.front (k := 7) rfl
     replace hs := hs.front (k := 7) rfl
     replace hs := hs.front (k := 5) rfl
     obtain ⟨e, cb, hm⟩ := bS hm
     replace a8 := a8.mono (((bj.trans aO).trans aN).trans aG); replace bE := bE.mono (((bj.trans aO).trans aN).trans aG); replace aM := aM.mono (((bj.trans aO).trans aN).trans aG); replace bD := bD.mono (((bj.trans aO).trans aN).trans aG)
     refine oC (fi := []) (vs := [.agg (rL12 (at' H a) aZ aW aY aV aX aU aK aJ).toArray, .map (some aF)]) (ca := [pQ aD 0, pQ aC 0]) rfl ⟨rfl, rfl, trivial⟩ en39 (f39_ok _ _ _ _ _ _ _ _ _ _ _ _ _ _ _ _ _ _ _ _ _ _ _ _ _ _ _ _ _ _ _ _ _ _ cb hs cg cf ce bm a8 bE aM ax bD) ?_
     clear hs; rintro _ w ⟨b6, G, D, E, C, ac, bx, hs, rfl, hNz294_px1k1_0_9⟩
     refine oN <| sK ?_
     obtain ⟨aH, bI, cc⟩ := bS hm
     replace hm := bI; clear bI
     refine cJ (fun f ds w => ∃ (bL : Im), ds = [] ∧ Im.le b6 bL ∧ Sat bL (mq aF vbl aH.1 :: blk am 145 [iN e.2.1, iN e.2.2.1, iN e.2.2.2.1, .slice Y j.length X, iN e.2.2.2.2.1, iN e.2.2.2.2.2.1, iN e.2.2.2.2.2.2.1, .map (some h), .slice G e.2.2.2.2.2.2.2.2.1.length D, .slice E e.2.2.2.2.2.2.2.2.2.length C] :: mq h vi64 e.2.2.2.2.2.2.2.1 :: osl 3 1 G e.2.2.2.2.2.2.2.2.1.length D (e.2.2.2.2.2.2.2.2.1.flatMap e64) :: osl 168 12 E e.2.2.2.2.2.2.2.2.2.length C ac :: blk a2 152 (rL12 (at' H a) aZ aW aY aV aX aU aK aJ) :: mq T vi64 aH.2 :: blk b1 33 (cL8 al ak W ae af.length ad) :: F) w ∧ f 1 = .func (.func 39) #[] #[pQ aD 0, pQ aC 0] ∧ f 5 = .map (some T) ∧ f 6 = .map (some aF) ∧ f 9 = pQ a2 0 ∧ f 30 = .slice aQ H.length aP ∧ f 31 = iN (H.length : Int) ∧ f 32 = iN a) ?_ ?_
     · refine cQ <| cR <| oF (b := a2) (o := 0) fl152_2 rfl <| ld1 (k := 5) hs rfl rfl ty24 rfl <| oV (x_len sl24 rfl) rfl <| mI rfl <| oN <| sK <| cw_block ?_
       refine cL (S := fun k f ds w => ∃ (c : Int) (aa : List (Int × Bool)) (d : List (Int × Int)), ∃ (bp : Im), ds = [] ∧ Im.le b6 bp ∧ f38a_l2 H a k c aa d = some aH ∧ Sat bp (mq aF vbl aa :: blk am 145 [iN e.2.1, iN e.2.2.1, iN e.2.2.2.1, .slice Y j.length X, iN e.2.2.2.2.1, iN e.2.2.2.2.2.1, iN e.2.2.2.2.2.2.1, .map (some h), .slice G e.2.2.2.2.2.2.2.2.1.length D, .slice E e.2.2.2.2.2.2.2.2.2.length C] :: mq h vi64 e.2.2.2.2.2.2.2.1 :: osl 3 1 G e.2.2.2.2.2.2.2.2.1.length D (e.2.2.2.2.2.2.2.2.1.flatMap e64) :: osl 168 12 E e.2.2.2.2.2.2.2.2.2.length C ac :: blk a2 152 (rL12 (at' H a) aZ aW aY aV aX aU aK aJ) :: mq T vi64 d :: blk b1 33 (cL8 al ak W ae af.length ad) :: F) w ∧ f 1 = .func (.func 39) #[] #[pQ aD 0, pQ aC 0] ∧ f 5 = .map (some T) ∧ f 6 = .map (some aF) ∧ f 9 = pQ a2 0 ∧ f 30 = .slice aQ H.length aP ∧ f 31 = iN (H.length : Int) ∧ f 32 = iN a ∧ f 44 = .slice aK (((at' H a).2.2.2.2.2.2.2.2.2.2.2.2.2.2.2.2.2.1).length) aJ ∧ f 45 = iN (((at' H a).2.2.2.2.2.2.2.2.2.2.2.2.2.2.2.2.2.1).length : Int) ∧ f 46 = iN c) ?_ (k := FUEL) ⟨0, e.1, Z, b6, rfl, iR, hm, hs, bR, b8, bt, rfl, bH, bG, bd, rfl, rfl, rfl⟩
       clear hm hs
       rintro k f ds w ⟨c, aa, d, bp, rfl, a7, hm, hs, bv, aR, a3, bs, bh, bf, bc, ba, a9, aS⟩
       rcases k with _ | k
       · unfold f38a_l2 at hm; cases hm
       unfold f38a_l2 at hm
       refine cQ <| cR <| oV (x_lss aS a9) rfl <| oN <| sQR ?_
       by_cases bB : c < (((at' H a).2.2.2.2.2.2.2.2.2.2.2.2.2.2.2.2.2.1).length : Int)
       · rw [if_pos bB] at hm
         refine cIt rfl (dT bB) <| cw_skip <| sQR <| cw_block <| cQ <| cR ?_
         have bk := (iS hm).1
         replace hm := (iS hm).2
         replace bm := bm.mono (bx.trans a7)
         refine oI (i := c) sl24 ty3 ba aS bk.1 bk.2 (Rs.some bm (by have := bk; omega)) <| oLR (p := c.toNat * 1) (vs := [iN (at' ((at' H a).2.2.2.2.2.2.2.2.2.2.2.2.2.2.2.2.2.1) c)]) (v := iN (at' ((at' H a).2.2.2.2.2.2.2.2.2.2.2.2.2.2.2.2.2.1) c)) hs bm rfl ty3 (flat_at (enc := e64) (sz := 1) (fun _ => rfl) ((at' H a).2.2.2.2.2.2.2.2.2.2.2.2.2.2.2.2.2.1) c bk.1 bk.2 0 1 (by decide)) rfl rfl <| asI rfl <| oN <| sQR <| cR <| oV (xM (v := .map (some T)) aR) rfl <| mI rfl <| ow_lookupQ (q := 6) (k := (at' ((at' H a).2.2.2.2.2.2.2.2.2.2.2.2.2.2.2.2.2.1) c)) (zv := 0) (v := iN (getM d (at' ((at' H a).2.2.2.2.2.2.2.2.2.2.2.2.2.2.2.2.2.1) c) 0)) mt143 mz143 hs rfl rfl rfl rfl <| oV (x_sub rfl rfl) rfl <| ow_updQ (q := 6) (k := (at' ((at' H a).2.2.2.2.2.2.2.2.2.2.2.2.2.2.2.2.2.1) c)) (v := (w64 ((getM d (at' ((at' H a).2.2.2.2.2.2.2.2.2.2.2.2.2.2.2.2.2.1) c) 0) - 1))) mt143 hs rfl rfl rfl rfl ?_
         clear hs; intro w hs
         refine oN <| sQR <| cR <| oV (xM (v := .map (some T)) aR) rfl <| mI rfl <| ow_lookupQ (q := 6) (k := (at' ((at' H a).2.2.2.2.2.2.2.2.2.2.2.2.2.2.2.2.2.1) c)) (zv := 0) (v := iN (getM (upM d (at' ((at' H a).2.2.2.2.2.2.2.2.2.2.2.2.2.2.2.2.2.1) c) (w64 ((getM d (at' ((at' H a).2.2.2.2.2.2.2.2.2.2.2.2.2.2.2.2.2.1) c) 0) - 1))) (at' ((at' H a).2.2.2.2.2.2.2.2.2.2.2.2.2.2.2.2.2.1) c) 0)) mt143 mz143 hs rfl rfl rfl rfl <| oV (x_eql rfl rfl) rfl <| oN <| sK ?_
         by_cases bA : (getM (upM d (at' ((at' H a).2.2.2.2.2.2.2.2.2.2.2.2.2.2.2.2.2.1) c) (w64 ((getM d (at' ((at' H a).2.2.2.2.2.2.2.2.2.2.2.2.2.2.2.2.2.1) c) 0) - 1))) (at' ((at' H a).2.2.2.2.2.2.2.2.2.2.2.2.2.2.2.2.2.1) c) 0) = 0
         · rw [if_pos bA] at hm
           refine cIt rfl (dT bA) <| cR <| oV (xM (v := .map (some aF)) a3) rfl <| mI rfl <| ow_delQ (q := 0) (k := (at' ((at' H a).2.2.2.2.2.2.2.2.2.2.2.2.2.2.2.2.2.1) c)) mt153 hs rfl rfl rfl ?_
           clear hs; intro w hs
           refine oN <| blockK_n <| sK <| cR <| oV (x_add aS rfl) rfl <| mI rfl <| oN ?_
           exact lN ⟨k, Nat.lt_succ_self k, w64 (c + 1), delM aa (at' ((at' H a).2.2.2.2.2.2.2.2.2.2.2.2.2.2.2.2.2.1) c), upM d (at' ((at' H a).2.2.2.2.2.2.2.2.2.2.2.2.2.2.2.2.2.1) c) (w64 ((getM d (at' ((at' H a).2.2.2.2.2.2.2.2.2.2.2.2.2.2.2.2.2.1) c) 0) - 1)), bp, rfl, a7, hm, hs, bv, aR, a3, bs, bh, bf, bc, ba, a9, rfl⟩
         rw [if_neg bA] at hm
         refine cIf rfl (dF bA) <| cw_skip <| blockK_n <| sK <| cR <| oV (x_add aS rfl) rfl <| mI rfl <| oN ?_
         exact lN ⟨k, Nat.lt_succ_self k, w64 (c + 1), aa, upM d (at' ((at' H a).2.2.2.2.2.2.2.2.2.2.2.2.2.2.2.2.2.1) c) (w64 ((getM d (at' ((at' H a).2.2.2.2.2.2.2.2.2.2.2.2.2.2.2.2.2.1) c) 0) - 1)), bp, rfl, a7, hm, hs, bv, aR, a3, bs, bh, bf, bc, ba, a9, rfl⟩
       rw [if_neg bB] at hm
       refine cIf rfl (dF bB) <| cw_exit <| seqK_x <| loopK_x <| blockK_hit ?_
       obtain rfl := oJ hm
       refine jN ⟨bp, rfl, a7, hs, bv, aR, a3, bs, bh, bf, bc⟩
     clear hm hs
     rintro f ds w ⟨bL, rfl, a6, hs, bo, a1, a0, bn, bg, be, bb⟩
     replace hm := cc
     refine cQ <| cR <| oV (xM (v := .map (some T)) a1) rfl <| oF (b := a2) (o := 0) fl152_3 bn <| ld1 (k := 5) hs rfl rfl ty3 rfl <| ow_lookupQ (q := 6) (k := ((at' H a).2.2.2.2.2.2.2.2.2.2.2.2.2.2.2.2.2.2)) (zv := 0) (v := iN (getM aH.2 ((at' H a).2.2.2.2.2.2.2.2.2.2.2.2.2.2.2.2.2.2) 0)) mt143 mz143 hs rfl rfl rfl rfl <| oV (x_eql rfl rfl) rfl <| oN <| sK ?_
     by_cases bz : (getM aH.2 ((at' H a).2.2.2.2.2.2.2.2.2.2.2.2.2.2.2.2.2.2) 0) = 0
     · rw [if_pos bz] at hm
       refine cIt rfl (dT bz) <| cR <| oV (xM (v := .map (some aF)) a0) rfl <| oF (b := a2) (o := 0) fl152_3 bn <| ld1 (k := 5) hs rfl rfl ty3 rfl <| ow_delQ (q := 0) (k := ((at' H a).2.2.2.2.2.2.2.2.2.2.2.2.2.2.2.2.2.2)) mt153 hs rfl rfl rfl ?_
       clear hs; intro w hs
       refine oN <| blockK_n ?_
       replace hs := hs.erase 5
       replace hs := hs.front (k := 4) rfl
       replace hs := hs.front (k := 4) rfl
       replace hs := hs.front (k := 4) rfl
       replace hs := hs.front (k := 4) rfl
       replace hs := hs.front (k := 6) rfl
       replace hs := hs.front (k := 6) rfl
       replace hs := hs.front (k := 6) rfl
       obtain rfl := oJ hm
       replace hNz294_px1k1_0_9 := hNz294_px1k1_0_9.mono a6
       refine jN ⟨G, D, E, C, ac, bL, rfl, (bx.trans a6), hs, bo, a1, a0, bg, be, bb, hNz294_px1k1_0_9⟩
     rw [if_neg bz] at hm
     refine cIf rfl (dF bz) <| cw_skip <| blockK_n ?_
     replace hs := hs.erase 5
     replace hs := hs.front (k := 4) rfl
     replace hs := hs.front (k := 4) rfl
     replace hs := hs.front (k := 4) rfl
     replace hs := hs.front (k := 4) rfl
     replace hs := hs.front (k := 6) rfl
     replace hs := hs.front (k := 6) rfl
     replace hs := hs.front (k := 6) rfl
     obtain rfl := oJ hm
     replace hNz294_px1k1_0_9 := hNz294_px1k1_0_9.mono a6
     refine jN ⟨G, D, E, C, ac, bL, rfl, (bx.trans a6), hs, bo, a1, a0, bg, be, bb, hNz294_px1k1_0_9⟩
   clear hm hs
   rintro f ds w ⟨u, s, t, m, l, bM, rfl, b9, hs, bY, bX, bW, bP, bO, bN, aI⟩
   replace hm := cd
   refine cR <| oV (x_add bN rfl) rfl <| mI rfl <| oN ?_
   exact lN ⟨k, Nat.lt_succ_self k, w64 (a + 1), z.1, z.2.1, z.2.2.1, z.2.2.2.1, z.2.2.2.2.1, z.2.2.2.2.2.1, z.2.2.2.2.2.2.1, z.2.2.2.2.2.2.2.1, z.2.2.2.2.2.2.2.2.1, z.2.2.2.2.2.2.2.2.2.1, z.2.2.2.2.2.2.2.2.2.2, u, s, t, m, l, bM, rfl, (aG.trans b9), hm, hs, bY, bX, bW, bP, bO, rfl, aI⟩
 rw [if_neg bC] at hm
 refine cIf rfl (dF bC) <| cw_exit <| seqK_x <| loopK_x <| blockK_hit <| rK (rs := []) (vs := []) (.inl rfl) rfl trivial ?_
 obtain rfl := oJ hm
 replace hs := hs.erase 0
 replace hs := hs.erase 0
 replace hs := hs.erase 0
 exact ⟨bq, u, s, t, m, l, (((bj.trans aO).trans aN).trans aG), hs, rfl, ax⟩
def f18_l0 (l : Int) (j : Int) : Nat → Int → (List Int) → Option (List Int)
  | 0, _, _ => none
  | k + 1, H, G => (if 0 ≤ H then (if G.length + [H].length ≤ 1099511627776 then (f18_l0 l j k (w64 (H - (w64 (l * j)))) (G ++ [H])) else none) else some G)
def f18_l1 (t : Int) (s : List (T2x)) (aM : List (Int × Int)) : Nat → Int → (List Int) → (List (T4x)) → (List Int) → Int → Int → Int → Int → Int → Int → (List (Int × Int)) → Option (List Int × (List (T4x)) × List Int × Int × Int × Int × Int × Int × Int × (List (Int × Int)))
  | 0, _, _, _, _, _, _, _, _, _, _, _ => none
  | k + 1, ab, c, aj, ag, ap, ao, an, am, al, ak, aE => (if ab < t then (if (getM aM ab 0) = 0 then (if c.length + [-1].length ≤ 1099511627776 then (f18_l1 t s aM k (w64 (ab + 1)) (c ++ [-1]) aj ag ap ao an am al ak aE) else none) else ((f37_m ap ao an s am al ak aE ag aj ab).bind fun N => (if c.length + [N.1].length ≤ 1099511627776 then (f18_l1 t s aM k (w64 (ab + 1)) (c ++ [N.1]) N.2.2.2.2.2.2.2.2.2 N.2.2.2.2.2.2.2.2.1 N.2.1 N.2.2.1 N.2.2.2.1 N.2.2.2.2.1 N.2.2.2.2.2.1 N.2.2.2.2.2.2.1 N.2.2.2.2.2.2.2.1) else none))) else some (c, aj, ag, ap, ao, an, am, al, ak, aE))
def f18_m (l : Int) (j : Int) (t : Int) (s : List (T2x)) (aa : Int) (Z : Int) (R : Int) : Option (Int × Int × List Int × Int × (List (T4x)) × Int) :=
  ((f32_m l j t s).bind fun r7 => (if ¬ (r7 = 0) then some (0, 0, ([] : List Int), 0, ([] : List (T4x)), r7) else ((f33_m aa Z R).bind fun ci => (if (!ci) = true then some (0, 0, ([] : List Int), 0, ([] : List (T4x)), 31) else ((f34_m l j t s).bind fun bZ => (if R < bZ then some (0, 0, ([] : List Int), 0, ([] : List (T4x)), 9) else ((f18_l0 l j FUEL (w64 (bZ - (w64 (l * j)))) ([] : List Int)).bind fun (bo : List Int) => ((f36_m l j t s).bind fun bq => ((f35_m l j t s bq).bind fun aM => ((f18_l1 t s aM FUEL 0 ([] : List Int) ([] : List (T4x)) bo l j t aa Z R ([] : List (Int × Int))).bind fun (Q : List Int × (List (T4x)) × List Int × Int × Int × Int × Int × Int × Int × (List (Int × Int))) => ((f38a_m l j t s l j t s Q.2.2.2.1 Q.2.2.2.2.1 Q.2.2.2.2.2.1 s Q.2.2.2.2.2.2.1 Q.2.2.2.2.2.2.2.1 Q.2.2.2.2.2.2.2.2.1 Q.2.2.2.2.2.2.2.2.2 Q.2.2.1 Q.2.1).bind fun T => some (l, j, Q.1, getM T.2.2.2.2.2.2.1 (w64 ((w64 (t + (s.length : Int))) - 1)) 0, T.2.2.2.2.2.2.2.2, 0))))))))))))
theorem f18_ok (l : Int) (j : Int) (t : Int) (s : List (T2x)) (aa : Int) (Z : Int) (R : Int) {r : Int × Int × List Int × Int × (List (T4x)) × Int} (hm : f18_m l j t s aa Z R = some r) {z : Option Addr} {y : Nat} {I : Im} {F : List HP} {w : World} (hs : Sat I (F) w) (ay : SN42 I z s.length y s) :
    CV P 18 [.agg (cL8 l j t z s.length y).toArray, .agg (cL1 aa Z R).toArray] w fun v w' => ∃ (J : Im) (a2 : Option Addr) (c2 : Nat) (a4 : Option Addr) (c4 : Nat), Im.le I J ∧ Sat J (F) w' ∧ v = .tuple #[.agg (cL16 r.1 r.2.1 a2 r.2.2.1.length c2 r.2.2.2.1 a4 r.2.2.2.2.1.length c4).toArray, iN r.2.2.2.2.2] ∧ Rs J 1 a2 r.2.2.1.length c2 (r.2.2.1.flatMap e64) ∧ SN168 J a4 r.2.2.2.2.1.length c4 r.2.2.2.2.1 := by
 unfold f18_m at hm
 refine cv_of (n := 113) Proofs.Tryz.func18 rfl rfl (nLe rfl) <| cQ <| cR <| oB (v := .agg (cL8 l j t z s.length y).toArray) (cs := (cL8 l j t z s.length y)) hs rfl rfl ?_
 clear hs; intro b1 w hs
 refine oB (v := .agg (cL1 aa Z R).toArray) (cs := (cL1 aa Z R)) hs rfl rfl ?_
 clear hs; intro b3 w hs
 refine ow_alloc hs ty81 rfl ?_
 clear hs; intro b5 w hs
 refine asI rfl <| oN <| sQR <| cQ <| cR <| oL (k := 2) (vs := (cL8 l j t z s.length y)) (v := .agg (cL8 l j t z s.length y).toArray) hs rfl rfl ty33 rfl rfl rfl ?_
 obtain ⟨r7, cT, hm⟩ := bS hm
 refine oC (fi := []) (vs := [.agg (cL8 l j t z s.length y).toArray]) (ca := []) rfl ⟨rfl, trivial⟩ en32 (f32_ok _ _ _ _ cT hs ay) ?_
 clear hs; rintro _ w ⟨J9, bj, hs, rfl⟩
 refine asI rfl <| oN <| sQR <| cR <| mI rfl <| oV (x_neqD rfl rfl) rfl <| oN <| sK ?_
 by_cases bV : ¬ (r7 = 0)
 · rw [if_pos bV] at hm
   refine cIt rfl (dT bV) <| cQ <| cR <| oU (vp := []) (cs := (cL16 0 0 none 0 0 0 none 0 0)) st81 ty81 trivial rfl <| mI rfl <| oS (k := 0) (vs := (cL16 0 0 none 0 0 0 none 0 0)) (cs' := (cL16 0 0 none 0 0 0 none 0 0)) hs rfl rfl rfl ty81 rfl rfl (nLe rfl) rfl rfl ?_
   clear hs; intro w hs
   refine asI rfl <| oN <| sK <| cw_ret <| seqK_r <| rK (rs := [.cell 4 81, .tmp 5]) (vs := [.agg (cL16 0 0 none 0 0 0 none 0 0).toArray, iN r7]) (.inr rfl) rfl ⟨⟨_, true, _, (cL16 0 0 none 0 0 0 none 0 0), rfl, ty81, CA_blk (off := 0) (m := 5) (hs.blk (k := 0) rfl), rfl, rfl⟩, rfl, trivial⟩ ?_
   obtain rfl := oJ hm
   replace hs := hs.erase 0
   replace hs := hs.erase 0
   replace hs := hs.erase 0
   exact ⟨J9, none, 0, none, 0, bj, hs, rfl, (Rs.nil _ _ _), (SN168.nil _ _)⟩
 rw [if_neg bV] at hm
 refine cIf rfl (dF bV) <| cw_skip <| sQR <| cQ <| cR <| oL (k := 1) (vs := (cL1 aa Z R)) (v := .agg (cL1 aa Z R).toArray) hs rfl rfl ty46 rfl rfl rfl ?_
 obtain ⟨ci, cF, hm⟩ := bS hm
 refine oC (fi := []) (vs := [.agg (cL1 aa Z R).toArray]) (ca := []) rfl ⟨rfl, trivial⟩ en33 (f33_ok _ _ _ cF hs) ?_
 clear hs; rintro _ w ⟨cU, bz, hs, rfl⟩
 refine oV (x_not (b := ci) rfl) rfl <| oN <| sK ?_
 by_cases bU : (!ci) = true
 · rw [if_pos bU] at hm
   refine cIt rfl bU <| cQ <| cR <| oU (vp := []) (cs := (cL16 0 0 none 0 0 0 none 0 0)) st81 ty81 trivial rfl <| oS (k := 0) (vs := (cL16 0 0 none 0 0 0 none 0 0)) (cs' := (cL16 0 0 none 0 0 0 none 0 0)) hs rfl rfl rfl ty81 rfl rfl (nLe rfl) rfl rfl ?_
   clear hs; intro w hs
   refine asI rfl <| oN <| sK <| cw_ret <| seqK_r <| rK (rs := [.cell 4 81, .tmp 5]) (vs := [.agg (cL16 0 0 none 0 0 0 none 0 0).toArray, iN 31]) (.inr rfl) rfl ⟨⟨_, true, _, (cL16 0 0 none 0 0 0 none 0 0), rfl, ty81, CA_blk (off := 0) (m := 5) (hs.blk (k := 0) rfl), rfl, rfl⟩, rfl, trivial⟩ ?_
   obtain rfl := oJ hm
   replace hs := hs.erase 0
   replace hs := hs.erase 0
   replace hs := hs.erase 0
   exact ⟨cU, none, 0, none, 0, (bj.trans bz), hs, rfl, (Rs.nil _ _ _), (SN168.nil _ _)⟩
 rw [if_neg bU] at hm
 refine cIf rfl (bF bU) <| cw_skip <| sQR <| cR <| oF (b := b1) (o := 0) fl33_0 rfl <| ld1 (k := 2) hs rfl rfl ty3 rfl <| oF (b := b1) (o := 0) fl33_1 rfl <| ld1 (k := 2) hs rfl rfl ty3 rfl <| oV (x_mul rfl rfl) rfl <| asI rfl <| oN ?_
 refine sQR <| cR <| oL (k := 2) (vs := (cL8 l j t z s.length y)) (v := .agg (cL8 l j t z s.length y).toArray) hs rfl rfl ty33 rfl rfl rfl ?_
 obtain ⟨bZ, cE, hm⟩ := bS hm
 replace ay := ay.mono (bj.trans bz)
 refine oC (fi := []) (vs := [.agg (cL8 l j t z s.length y).toArray]) (ca := []) rfl ⟨rfl, trivial⟩ en34 (f34_ok _ _ _ _ cE hs ay) ?_
 clear hs; rintro _ w ⟨cf, a9, hs, rfl⟩
 refine asI rfl <| oN <| sQR <| cQ <| cR <| oF (b := b3) (o := 0) fl46_2 rfl <| ld1 (k := 1) hs rfl rfl ty3 rfl <| mI rfl <| oV (x_lss rfl rfl) rfl <| oN <| sK ?_
 by_cases bT : R < bZ
 · rw [if_pos bT] at hm
   refine cIt rfl (dT bT) <| cQ <| cR <| oU (vp := []) (cs := (cL16 0 0 none 0 0 0 none 0 0)) st81 ty81 trivial rfl <| oS (k := 0) (vs := (cL16 0 0 none 0 0 0 none 0 0)) (cs' := (cL16 0 0 none 0 0 0 none 0 0)) hs rfl rfl rfl ty81 rfl rfl (nLe rfl) rfl rfl ?_
   clear hs; intro w hs
   refine asI rfl <| oN <| sK <| cw_ret <| seqK_r <| rK (rs := [.cell 4 81, .tmp 5]) (vs := [.agg (cL16 0 0 none 0 0 0 none 0 0).toArray, iN 9]) (.inr rfl) rfl ⟨⟨_, true, _, (cL16 0 0 none 0 0 0 none 0 0), rfl, ty81, CA_blk (off := 0) (m := 5) (hs.blk (k := 0) rfl), rfl, rfl⟩, rfl, trivial⟩ ?_
   obtain rfl := oJ hm
   replace hs := hs.erase 0
   replace hs := hs.erase 0
   replace hs := hs.erase 0
   exact ⟨cf, none, 0, none, 0, ((bj.trans bz).trans a9), hs, rfl, (Rs.nil _ _ _), (SN168.nil _ _)⟩
 rw [if_neg bT] at hm
 refine cIf rfl (dF bT) <| cw_skip <| sQR <| cR <| oL (k := 2) (vs := (cL8 l j t z s.length y)) (v := .agg (cL8 l j t z s.length y).toArray) hs rfl rfl ty33 rfl rfl rfl <| oL (k := 1) (vs := (cL1 aa Z R)) (v := .agg (cL1 aa Z R).toArray) hs rfl rfl ty46 rfl rfl rfl <| ow_makeMapQ (V := Int) (vv := vi64) mt143 hs ?_
 clear hs; intro aJ w hs
 refine oU (vp := [(0, .agg (cL8 l j t z s.length y).toArray), (1, .agg (cL1 aa Z R).toArray), (2, .map (some aJ))]) (cs := [iN l, iN j, iN t, .slice z s.length y, iN aa, iN Z, iN R, .map (some aJ), .slice none 0 0, .slice none 0 0]) st145 ty145 ⟨rfl, rfl, rfl, rfl, rfl, rfl, trivial⟩ rfl <| oB (v := .agg #[iN l, iN j, iN t, .slice z s.length y, iN aa, iN Z, iN R, .map (some aJ), .slice none 0 0, .slice none 0 0]) (cs := [iN l, iN j, iN t, .slice z s.length y, iN aa, iN Z, iN R, .map (some aJ), .slice none 0 0, .slice none 0 0]) hs rfl rfl ?_
 clear hs; intro ax w hs
 replace hs := hs.pushNil 3 1
 replace hs := hs.pushNil 168 12
 have b8 : NN168 cf ([] : List (T4x)) [] := NL.nil
 refine ow_alloc hs ty142 rfl ?_
 clear hs; intro ba w hs
 refine oS (k := 0) (vs := [pQ ax 0]) (cs' := [pQ ax 0]) hs rfl rfl rfl ty142 rfl rfl (nLe rfl) rfl rfl ?_
 clear hs; intro w hs
 refine oN <| sK ?_
 obtain ⟨bo, b6, cG⟩ := bS hm
 replace hm := b6; clear b6
 refine cJ (fun f ds w => ∃ (M : Option Addr) (K : Nat) (cg : Im), ds = [] ∧ Im.le cf cg ∧ Sat cg (blk ba 142 [pQ ax 0] :: osl 168 12 none ([] : List (T4x)).length 0 [] :: osl 3 1 M bo.length K (bo.flatMap e64) :: blk ax 145 [iN l, iN j, iN t, .slice z s.length y, iN aa, iN Z, iN R, .map (some aJ), .slice M bo.length K, .slice none (([] : List (T4x)).length) 0] :: mq aJ vi64 ([] : List (Int × Int)) :: blk b5 81 (cL16 0 0 none 0 0 0 none 0 0) :: blk b3 46 (cL1 aa Z R) :: blk b1 33 (cL8 l j t z s.length y) :: F) w ∧ f 2 = pQ b1 0 ∧ f 4 = pQ b5 0 ∧ f 5 = iN 0 ∧ f 9 = pQ ba 0) ?_ ?_
 · refine cQ <| cR <| mI rfl <| mI rfl <| oV (x_sub rfl rfl) rfl <| asI rfl <| oN <| sK <| cw_block ?_
   refine cL (S := fun k f ds w => ∃ (H : Int) (G : List Int), ∃ (M : Option Addr) (K : Nat) (bX : Im), ds = [] ∧ Im.le cf bX ∧ f18_l0 l j k H G = some bo ∧ Sat bX (blk ba 142 [pQ ax 0] :: osl 168 12 none ([] : List (T4x)).length 0 [] :: osl 3 1 M G.length K (G.flatMap e64) :: blk ax 145 [iN l, iN j, iN t, .slice z s.length y, iN aa, iN Z, iN R, .map (some aJ), .slice M G.length K, .slice none (([] : List (T4x)).length) 0] :: mq aJ vi64 ([] : List (Int × Int)) :: blk b5 81 (cL16 0 0 none 0 0 0 none 0 0) :: blk b3 46 (cL1 aa Z R) :: blk b1 33 (cL8 l j t z s.length y) :: F) w ∧ f 2 = pQ b1 0 ∧ f 4 = pQ b5 0 ∧ f 5 = iN 0 ∧ f 7 = iN (w64 (l * j)) ∧ f 9 = pQ ba 0 ∧ f 10 = iN H) ?_ (k := FUEL) ⟨w64 (bZ - (w64 (l * j))), ([] : List Int), none, 0, cf, rfl, iR, hm, hs, rfl, rfl, rfl, rfl, rfl, rfl⟩
   clear hm hs
   rintro k f ds w ⟨H, G, M, K, bX, rfl, b7, hm, hs, bK, bJ, bI, bH, bc, bi⟩
   rcases k with _ | k
   · unfold f18_l0 at hm; cases hm
   unfold f18_l0 at hm
   refine cQ <| cQ <| cR <| mI bi <| oV (x_geq rfl rfl) rfl <| oN <| sK ?_
   by_cases bR : 0 ≤ H
   · rw [if_pos bR] at hm
     refine cIt rfl (dT bR) <| cw_skip <| sQR <| cw_block ?_
     have cH := (iS hm).1
     replace hm := (iS hm).2
     refine cD mixed rfl (fun f0 L f w => ∃ (aK : Option Addr) (aI : Option Addr) (aH : Nat) (Iq : Im), Im.le bX Iq ∧ f = frL [(49, 0, pQ ax 0), (50, 1, pQ ax 0), (51, 2, pQ ax 0), (52, 3, pQ ax 8), (53, 4, .slice M G.length K), (54, 5, iN H), (55, 6, .slice aK ([H].length) 1), (56, 7, .slice aI ((G ++ [H]).length) aH), (57, 8, pQ ax 0), (58, 9, pQ ax 8)] L f0 ∧ Sat Iq (blk ba 142 [pQ ax 0] :: osl 168 12 none ([] : List (T4x)).length 0 [] :: rL [(7, osl 3 1 aI (G ++ [H]).length aH ((G ++ [H]).flatMap e64))] (osl 3 1 M G.length K (G.flatMap e64)) L :: rL [(10, blk ax 145 [iN l, iN j, iN t, .slice z s.length y, iN aa, iN Z, iN R, .map (some aJ), .slice aI ((G ++ [H]).length) aH, .slice none (([] : List (T4x)).length) 0])] (blk ax 145 [iN l, iN j, iN t, .slice z s.length y, iN aa, iN Z, iN R, .map (some aJ), .slice M G.length K, .slice none (([] : List (T4x)).length) 0]) L :: mq aJ vi64 ([] : List (Int × Int)) :: blk b5 81 (cL16 0 0 none 0 0 0 none 0 0) :: blk b3 46 (cL1 aa Z R) :: blk b1 33 (cL8 l j t z s.length y) :: F) w ∧ (L 6 = true → Rs Iq 1 aK [H].length 1 ([H].flatMap e64)) ∧ (L 10 = true → L 4 = true) ∧ (L 10 = true → L 7 = true)) ⟨none, none, 0, bX, iR, (frL_ff _).symm, hs.drew, (fun h => by cases h), (fun h => by cases h), (fun h => by cases h)⟩ ⟨?_, ?_, ?_, ?_, ?_, ?_, ?_, ?_, ?_, ?_, ?_, trivial⟩ ?_
     all_goals clear hs
     · rintro L f w _ hL ⟨aK, aI, aH, Iq, p, rfl, hs, ae, W, U⟩
       refine ld1 (k := 0) hs rfl bc ty142 rfl ?_
       exact oN ⟨rfl, rfl, aK, aI, aH, Iq, p, fS rfl rfl, hs, (fun h => ae h), W, U⟩
     · rintro L f w _ hL ⟨aK, aI, aH, Iq, p, rfl, hs, ae, W, U⟩
       refine ld1 (k := 0) hs rfl bc ty142 rfl ?_
       exact oN ⟨rfl, rfl, aK, aI, aH, Iq, p, fS rfl rfl, hs, (fun h => ae h), W, U⟩
     · rintro L f w ⟨aX, _⟩ hL ⟨aK, aI, aH, Iq, p, rfl, hs, ae, W, U⟩
       refine oV (x_nilCheck (fG rfl aX)) rfl ?_
       exact oN ⟨rfl, rfl, aK, aI, aH, Iq, p, fS rfl rfl, hs, (fun h => ae h), W, U⟩
     · rintro L f w ⟨aU, _⟩ hL ⟨aK, aI, aH, Iq, p, rfl, hs, ae, W, U⟩
       refine oF (b := ax) (o := 0) fl145_3 (fG rfl aU) ?_
       exact oN ⟨rfl, rfl, aK, aI, aH, Iq, p, fS rfl rfl, hs, (fun h => ae h), W, U⟩
     · rintro L f w ⟨a0, _⟩ hL ⟨aK, aI, aH, Iq, p, rfl, hs, ae, W, U⟩
       replace hs := hs.eqv (k := 3) rfl ((rL_f (show L 10 = false from pF W hL) (rL_n)))
       refine ld1 (k := 3) hs rfl (fG rfl a0) ty24 rfl ?_
       replace hs := hs.eqv (k := 3) rfl (Eq.symm (a := rL [(10, blk ax 145 [iN l, iN j, iN t, .slice z s.length y, iN aa, iN Z, iN R, .map (some aJ), .slice aI ((G ++ [H]).length) aH, .slice none (([] : List (T4x)).length) 0])] (blk ax 145 [iN l, iN j, iN t, .slice z s.length y, iN aa, iN Z, iN R, .map (some aJ), .slice M G.length K, .slice none (([] : List (T4x)).length) 0]) (setL L 4)) (((rL_f (L := setL L 4) (show L 10 = false from pF W hL) (rL_n)))))
       exact oN ⟨rfl, rfl, aK, aI, aH, Iq, p, fS rfl rfl, hs, (fun h => ae h), (fun _ => rfl), U⟩
     · rintro L f w _ hL ⟨aK, aI, aH, Iq, p, rfl, hs, ae, W, U⟩
       refine mI bi ?_
       exact oN ⟨rfl, rfl, aK, aI, aH, Iq, p, fS rfl rfl, hs, (fun h => ae h), W, U⟩
     · rintro L f w ⟨aZ, _⟩ hL ⟨aK, aI, aH, Iq, p, rfl, hs, ae, W, U⟩
       refine ow_buildSlice (vp := [(0, iN H)]) (cs := [iN H]) hs sl24 ty3 rfl ⟨rfl, (fG rfl aZ), trivial⟩ (by decide) rfl (by decide) ?_
       clear hs; intro aK cM w cy hs aT
       replace aT : Rs cM 1 aK [H].length 1 ([H].flatMap e64) := aT
       exact oN ⟨rfl, rfl, aK, aI, aH, cM, (p.trans cy), (Eq.trans (fSG (i := 6) rfl rfl) (rfl)), hs, (fun _ => aT), W, U⟩
     · rintro L f w ⟨aR, aW, _⟩ hL ⟨aK, aI, aH, Iq, p, rfl, hs, ae, W, U⟩
       have aT := ae aW
       replace hs := hs.eqv (k := 2) rfl ((rL_f hL (rL_n)))
       replace hs := hs.eqv (k := 3) rfl ((rL_f (show L 10 = false from pF U hL) (rfl)))
       refine ow_appendT (k := 2) (enc := e64) (X := G) (Y := [H]) hs rfl sl24 ty3 el3 rfl (fG rfl aR) (fG rfl aW) aT (fun _ => rfl) cH (by decide) ?_
       clear hs; intro aI aH w hs
       replace hs := hs.eqv (k := 3) rfl (Eq.symm (a := rL [(10, blk ax 145 [iN l, iN j, iN t, .slice z s.length y, iN aa, iN Z, iN R, .map (some aJ), .slice aI ((G ++ [H]).length) aH, .slice none (([] : List (T4x)).length) 0])] (blk ax 145 [iN l, iN j, iN t, .slice z s.length y, iN aa, iN Z, iN R, .map (some aJ), .slice M G.length K, .slice none (([] : List (T4x)).length) 0]) (setL L 7)) (((rL_f (L := setL L 7) (show L 10 = false from pF U hL) (rfl)))))
       exact oN ⟨rfl, rfl, aK, aI, aH, Iq, p, (Eq.trans (fSG (i := 7) rfl rfl) (rfl)), hs, (fun h => ae h), W, (fun _ => rfl)⟩
     · rintro L f w ⟨a6, _, aX, aU, a0, aR, aZ, aW, bp, _⟩ hL ⟨aK, aI, aH, Iq, p, rfl, hs, ae, W, U⟩
       have aT := ae aW
       refine oV (x_nilCheck (fG rfl a6)) rfl ?_
       exact oN ⟨rfl, rfl, aK, aI, aH, Iq, p, fS rfl rfl, hs, (fun h => ae h), W, U⟩
     · rintro L f w ⟨cb, a6, aX, aU, a0, aR, aZ, aW, bp, _⟩ hL ⟨aK, aI, aH, Iq, p, rfl, hs, ae, W, U⟩
       have aT := ae aW
       refine oF (b := ax) (o := 0) fl145_3 (fG rfl cb) ?_
       exact oN ⟨rfl, rfl, aK, aI, aH, Iq, p, fS rfl rfl, hs, (fun h => ae h), W, U⟩
     · rintro L f w ⟨b9, bp, _, a6, aX, aU, a0, aR, aZ, aW, _, _⟩ hL ⟨aK, aI, aH, Iq, p, rfl, hs, ae, W, U⟩
       have aT := ae aW
       replace hs := hs.eqv (k := 3) rfl ((rL_f hL (rL_n)))
       refine oS (k := 3) (vs := [.slice aI ((G ++ [H]).length) aH]) (cs' := [iN l, iN j, iN t, .slice z s.length y, iN aa, iN Z, iN R, .map (some aJ), .slice aI ((G ++ [H]).length) aH, .slice none (([] : List (T4x)).length) 0]) hs rfl (fG rfl b9) (fG rfl bp) ty24 rfl rfl (nLe rfl) rfl rfl ?_
       clear hs; intro w hs
       exact oN ⟨rfl, rfl, aK, aI, aH, Iq, p, frL_no rfl, hs, (fun h => ae h), (fun _ => aR), (fun _ => bp)⟩
     rintro L f w hall ⟨aK, aI, aH, cV, cx, rfl, hs, aT, _, _⟩
     rw [frL_tt _ rfl hall]
     replace hs := hs.eqv (k := 2) rfl (rL_t (hall 7 (nLe rfl)))
     replace hs := hs.eqv (k := 3) rfl (rL_t (hall 10 (nLe rfl)))
     replace aT := aT (hall 6 (nLe rfl))
     refine blockK_n <| sK <| cR <| mI bi <| mI bH <| oV (x_sub rfl rfl) rfl <| asI rfl <| oN ?_
     exact lN ⟨k, Nat.lt_succ_self k, w64 (H - (w64 (l * j))), G ++ [H], aI, aH, cV, rfl, (b7.trans cx), hm, hs, bK, bJ, bI, bH, bc, rfl⟩
   rw [if_neg bR] at hm
   refine cIf rfl (dF bR) <| cw_exit <| seqK_x <| loopK_x <| blockK_hit ?_
   obtain rfl := oJ hm
   refine jN ⟨M, K, bX, rfl, b7, hs, bK, bJ, bI, bc⟩
 clear hm hs
 rintro f ds w ⟨M, K, cg, rfl, a8, hs, aP, b4, b2, b0⟩
 replace hm := cG
 refine cQ <| cR <| oF (b := b1) (o := 0) fl33_0 aP <| ld1 (k := 7) hs rfl rfl ty3 rfl <| oF (b := b1) (o := 0) fl33_1 aP <| ld1 (k := 7) hs rfl rfl ty3 rfl <| oU (vp := [(0, iN l), (1, iN j)]) (cs := (cL16 l j none 0 0 0 none 0 0)) st81 ty81 ⟨rfl, rfl, rfl, rfl, trivial⟩ rfl <| ow_alloc hs ty81 rfl ?_
 clear hs; intro aF w hs
 refine oS (k := 0) (vs := (cL16 l j none 0 0 0 none 0 0)) (cs' := (cL16 l j none 0 0 0 none 0 0)) hs rfl rfl rfl ty81 rfl rfl (nLe rfl) rfl rfl ?_
 clear hs; intro w hs
 refine oN <| sQR ?_
 obtain ⟨bq, cv, hm⟩ := bS hm
 obtain ⟨aM, cu, hm⟩ := bS hm
 replace hs := hs.pushEmp
 refine cD mixed rfl (fun f0 L f w => ∃ (ai : Option Addr) (ah : Nat) (O : Nat) (Iq : Im), Im.le cg Iq ∧ f = frL [(64, 0, .agg (cL8 l j t z s.length y).toArray), (65, 1, .agg (cL8 l j t z s.length y).toArray), (66, 2, .slice ai bq.length ah), (67, 3, .map (some O)), (12, 4, .map (some O))] L f0 ∧ Sat Iq (rL [(3, mq O vi64 aM)] emp L :: blk aF 81 (cL16 l j none 0 0 0 none 0 0) :: blk ba 142 [pQ ax 0] :: osl 168 12 none ([] : List (T4x)).length 0 [] :: osl 3 1 M bo.length K (bo.flatMap e64) :: blk ax 145 [iN l, iN j, iN t, .slice z s.length y, iN aa, iN Z, iN R, .map (some aJ), .slice M bo.length K, .slice none (([] : List (T4x)).length) 0] :: mq aJ vi64 ([] : List (Int × Int)) :: blk b5 81 (cL16 0 0 none 0 0 0 none 0 0) :: blk b3 46 (cL1 aa Z R) :: blk b1 33 (cL8 l j t z s.length y) :: F) w ∧ (L 2 = true → SN152 Iq ai bq.length ah bq) ∧ (L 4 = true → L 3 = true)) ⟨none, 0, 0, cg, iR, (frL_ff _).symm, hs.drew, (fun h => by cases h), (fun h => by cases h)⟩ ⟨?_, ?_, ?_, ?_, ?_, trivial⟩ ?_
 all_goals clear hs
 · rintro L f w _ hL ⟨ai, ah, O, Iq, p, rfl, hs, ar, aS⟩
   refine oL (k := 9) (vs := (cL8 l j t z s.length y)) (v := .agg (cL8 l j t z s.length y).toArray) hs rfl aP ty33 rfl rfl rfl ?_
   exact oN ⟨rfl, rfl, ai, ah, O, Iq, p, fS rfl rfl, hs, (fun h => ar h), aS⟩
 · rintro L f w _ hL ⟨ai, ah, O, Iq, p, rfl, hs, ar, aS⟩
   refine oL (k := 9) (vs := (cL8 l j t z s.length y)) (v := .agg (cL8 l j t z s.length y).toArray) hs rfl aP ty33 rfl rfl rfl ?_
   exact oN ⟨rfl, rfl, ai, ah, O, Iq, p, fS rfl rfl, hs, (fun h => ar h), aS⟩
 · rintro L f w ⟨aX, _⟩ hL ⟨ai, ah, O, Iq, p, rfl, hs, ar, aS⟩
   replace ay := ay.mono ((a9.trans a8).trans p)
   refine oC (fi := []) (vs := [.agg (cL8 l j t z s.length y).toArray]) (ca := []) rfl ⟨(fG rfl aX), trivial⟩ en36 (f36_ok _ _ _ _ cv hs ay) ?_
   clear hs; rintro _ w ⟨cP, ai, ah, ck, hs, rfl, hRz106_0⟩
   exact oN ⟨rfl, rfl, ai, ah, O, cP, (p.trans ck), (Eq.trans (fSG (i := 2) rfl rfl) (rfl)), hs, (fun _ => hRz106_0), aS⟩
 · rintro L f w ⟨a6, aU, _, _⟩ hL ⟨ai, ah, O, Iq, p, rfl, hs, ar, aS⟩
   have hRz106_0 := ar aU
   replace hs := hs.eqv (k := 0) rfl ((rL_f hL (rL_n)))
   replace ay := ay.mono ((a9.trans a8).trans p)
   refine oC (fi := []) (vs := [.agg (cL8 l j t z s.length y).toArray, .slice ai bq.length ah]) (ca := []) rfl ⟨(fG rfl a6), (fG rfl aU), trivial⟩ en35 (f35_ok _ _ _ _ _ cu hs ay hRz106_0) ?_
   clear hs; rintro _ w ⟨cO, O, bQ, hs, rfl⟩
   replace hs := hs.setE (k := 0) rfl
   exact oN ⟨rfl, rfl, ai, ah, O, cO, (p.trans bQ), (Eq.trans (fSG (i := 3) rfl rfl) (Eq.trans (fD (u := undef) (i := 4) (v := .map (some O)) (L := setL L 3) (show L 4 = false from pF aS hL)) (rfl))), hs, (fun h => (ar h).mono bQ), (fun _ => rfl)⟩
 · rintro L f w ⟨a0, _, a6, aX, aU, _, _⟩ hL ⟨ai, ah, O, Iq, p, rfl, hs, ar, aS⟩
   have hRz106_0 := ar aU
   refine oV (xA (v := .map (some O)) (fG rfl a0)) rfl ?_
   exact oN ⟨rfl, rfl, ai, ah, O, Iq, p, fS rfl rfl, hs, (fun h => ar h), (fun _ => a0)⟩
 rintro L f w hall ⟨ai, ah, O, ch, bf, rfl, hs, hRz106_0, _⟩
 rw [frL_tt _ rfl hall]
 replace hs := hs.eqv (k := 0) rfl (rL_t (hall 3 (nLe rfl)))
 replace hRz106_0 := hRz106_0 (hall 2 (nLe rfl))
 refine sK ?_
 replace hs := hs.pushNil 3 1
 obtain ⟨Q, b6, cw⟩ := bS hm
 replace hm := b6; clear b6
 refine cJ (fun f ds w => ∃ (e : Option Addr) (d : Nat) (aC : Option Addr) (aB : Nat) (aG : List Value) (M : Option Addr) (K : Nat) (bW : Im), ds = [] ∧ Im.le ch bW ∧ Sat bW (osl 3 1 e Q.1.length d (Q.1.flatMap e64) :: mq O vi64 aM :: blk aF 81 (cL16 l j e Q.1.length d 0 none 0 0) :: blk ba 142 [pQ ax 0] :: osl 168 12 aC Q.2.1.length aB aG :: osl 3 1 M Q.2.2.1.length K (Q.2.2.1.flatMap e64) :: blk ax 145 [iN Q.2.2.2.1, iN Q.2.2.2.2.1, iN Q.2.2.2.2.2.1, .slice z s.length y, iN Q.2.2.2.2.2.2.1, iN Q.2.2.2.2.2.2.2.1, iN Q.2.2.2.2.2.2.2.2.1, .map (some aJ), .slice M Q.2.2.1.length K, .slice aC Q.2.1.length aB] :: mq aJ vi64 Q.2.2.2.2.2.2.2.2.2 :: blk b5 81 (cL16 0 0 none 0 0 0 none 0 0) :: blk b3 46 (cL1 aa Z R) :: blk b1 33 (cL8 l j t z s.length y) :: F) w ∧ f 2 = pQ b1 0 ∧ f 4 = pQ b5 0 ∧ f 5 = iN 0 ∧ f 9 = pQ ba 0 ∧ f 11 = pQ aF 0 ∧ NN168 bW Q.2.1 aG) ?_ ?_
 · refine cQ <| cR <| oF (b := b1) (o := 0) fl33_2 aP <| ld1 (k := 10) hs rfl rfl ty3 rfl <| mI rfl <| oN <| sK <| cw_block ?_
   replace b8 := b8.mono (a8.trans bf)
   refine cL (S := fun k f ds w => ∃ (ab : Int) (c : List Int) (aj : List (T4x)) (ag : List Int) (ap : Int) (ao : Int) (an : Int) (am : Int) (al : Int) (ak : Int) (aE : List (Int × Int)), ∃ (e : Option Addr) (d : Nat) (aC : Option Addr) (aB : Nat) (aG : List Value) (M : Option Addr) (K : Nat) (bm : Im), ds = [] ∧ Im.le ch bm ∧ f18_l1 t s aM k ab c aj ag ap ao an am al ak aE = some Q ∧ Sat bm (osl 3 1 e c.length d (c.flatMap e64) :: mq O vi64 aM :: blk aF 81 (cL16 l j e c.length d 0 none 0 0) :: blk ba 142 [pQ ax 0] :: osl 168 12 aC aj.length aB aG :: osl 3 1 M ag.length K (ag.flatMap e64) :: blk ax 145 [iN ap, iN ao, iN an, .slice z s.length y, iN am, iN al, iN ak, .map (some aJ), .slice M ag.length K, .slice aC aj.length aB] :: mq aJ vi64 aE :: blk b5 81 (cL16 0 0 none 0 0 0 none 0 0) :: blk b3 46 (cL1 aa Z R) :: blk b1 33 (cL8 l j t z s.length y) :: F) w ∧ f 2 = pQ b1 0 ∧ f 4 = pQ b5 0 ∧ f 5 = iN 0 ∧ f 9 = pQ ba 0 ∧ f 11 = pQ aF 0 ∧ f 12 = .map (some O) ∧ f 69 = iN t ∧ f 70 = iN ab ∧ NN168 bm aj aG) ?_ (k := FUEL) ⟨0, ([] : List Int), ([] : List (T4x)), bo, l, j, t, aa, Z, R, ([] : List (Int × Int)), none, 0, none, 0, [], M, K, ch, rfl, iR, hm, hs, aP, b4, b2, b0, rfl, rfl, rfl, rfl, b8⟩
   clear hm hs
   rintro k f ds w ⟨ab, c, aj, ag, ap, ao, an, am, al, ak, aE, e, d, aC, aB, aG, M, K, bm, rfl, be, hm, hs, bu, bt, bs, bb, aL, bh, bg, a3, au⟩
   rcases k with _ | k
   · unfold f18_l1 at hm; cases hm
   unfold f18_l1 at hm
   refine cQ <| cR <| oV (x_lss a3 bg) rfl <| oN <| sQR ?_
   by_cases bB : ab < t
   · rw [if_pos bB] at hm
     refine cIt rfl (dT bB) <| cw_skip <| sQR <| cw_block <| cQ <| cR <| mI a3 <| asI rfl <| oN <| sQR ?_
     refine cQ <| cR <| oV (xM (v := .map (some O)) bh) rfl <| mI rfl <| ow_lookupQ (q := 1) (k := ab) (zv := 0) (v := iN (getM aM ab 0)) mt143 mz143 hs rfl rfl rfl rfl <| oV (x_eql rfl rfl) rfl <| oN <| sK ?_
     by_cases bA : (getM aM ab 0) = 0
     · rw [if_pos bA] at hm
       refine cIt rfl (dT bA) <| cQ <| cR <| oF (b := aF) (o := 0) fl81_2 aL <| ld1 (k := 2) hs rfl rfl ty24 rfl <| ow_buildSlice (vp := [(0, iN (-1))]) (cs := [iN (-1)]) hs sl24 ty3 rfl ⟨rfl, rfl, trivial⟩ (by decide) rfl (by decide) ?_
       clear hs; intro cK cq w bP hs bG
       replace bG : Rs cq 1 cK [-1].length 1 ([-1].flatMap e64) := bG
       have cA := (iS hm).1
       replace hm := (iS hm).2
       refine ow_appendT (k := 0) (enc := e64) (X := c) (Y := [-1]) hs rfl sl24 ty3 el3 rfl rfl rfl bG (fun _ => rfl) cA (by decide) ?_
       clear hs; intro ce cd w hs
       refine oF (b := aF) (o := 0) fl81_2 aL <| oS (k := 2) (vs := [.slice ce ((c ++ [-1]).length) cd]) (cs' := (cL16 l j ce ((c ++ [-1]).length) cd 0 none 0 0)) hs rfl rfl rfl ty24 rfl rfl (nLe rfl) rfl rfl ?_
       clear hs; intro w hs
       refine oN <| sK <| cw_exit <| seqK_x <| blockK_hit <| sK <| cR <| oV (x_add a3 rfl) rfl <| mI rfl <| oN ?_
       replace au := au.mono bP
       exact lN ⟨k, Nat.lt_succ_self k, w64 (ab + 1), c ++ [-1], aj, ag, ap, ao, an, am, al, ak, aE, ce, cd, aC, aB, aG, M, K, cq, rfl, (be.trans bP), hm, hs, bu, bt, bs, bb, aL, bh, bg, rfl, au⟩
     rw [if_neg bA] at hm
     refine cIf rfl (dF bA) <| cw_skip <| sK ?_
     obtain ⟨N, ct, hm⟩ := bS hm
     have cz := (iS hm).1
     replace hm := (iS hm).2
     refine cD mixed rfl (fun f0 L f w => ∃ (D : Option Addr) (B : Nat) (A : List Value) (E : Option Addr) (C : Nat) (aD : Option Addr) (aw : Option Addr) (av : Nat) (Iq : Im), Im.le bm Iq ∧ f = frL [(82, 0, pQ aF 2), (83, 1, .slice e c.length d), (84, 2, pQ ax 0), (85, 3, iN ab), (86, 4, iN N.1), (87, 5, .slice aD ([N.1].length) 1), (88, 6, .slice aw ((c ++ [N.1]).length) av), (89, 7, pQ aF 2)] L f0 ∧ Sat Iq (rL [(6, osl 3 1 aw (c ++ [N.1]).length av ((c ++ [N.1]).flatMap e64))] (osl 3 1 e c.length d (c.flatMap e64)) L :: mq O vi64 aM :: rL [(8, blk aF 81 (cL16 l j aw ((c ++ [N.1]).length) av 0 none 0 0))] (blk aF 81 (cL16 l j e c.length d 0 none 0 0)) L :: blk ba 142 [pQ ax 0] :: rL [(4, osl 168 12 D N.2.2.2.2.2.2.2.2.2.length B A)] (osl 168 12 aC aj.length aB aG) L :: rL [(4, osl 3 1 E N.2.2.2.2.2.2.2.2.1.length C (N.2.2.2.2.2.2.2.2.1.flatMap e64))] (osl 3 1 M ag.length K (ag.flatMap e64)) L :: rL [(4, blk ax 145 [iN N.2.1, iN N.2.2.1, iN N.2.2.2.1, .slice z s.length y, iN N.2.2.2.2.1, iN N.2.2.2.2.2.1, iN N.2.2.2.2.2.2.1, .map (some aJ), .slice E N.2.2.2.2.2.2.2.2.1.length C, .slice D N.2.2.2.2.2.2.2.2.2.length B])] (blk ax 145 [iN ap, iN ao, iN an, .slice z s.length y, iN am, iN al, iN ak, .map (some aJ), .slice M ag.length K, .slice aC aj.length aB]) L :: rL [(4, mq aJ vi64 N.2.2.2.2.2.2.2.1)] (mq aJ vi64 aE) L :: blk b5 81 (cL16 0 0 none 0 0 0 none 0 0) :: blk b3 46 (cL1 aa Z R) :: blk b1 33 (cL8 l j t z s.length y) :: F) w ∧ (L 4 = true → NN168 Iq N.2.2.2.2.2.2.2.2.2 A) ∧ (L 5 = true → Rs Iq 1 aD [N.1].length 1 ([N.1].flatMap e64)) ∧ (L 8 = true → L 1 = true) ∧ (L 8 = true → L 6 = true)) ⟨none, 0, [], none, 0, none, none, 0, bm, iR, (frL_ff _).symm, hs.drew, (fun h => by cases h), (fun h => by cases h), (fun h => by cases h), (fun h => by cases h)⟩ ⟨?_, ?_, ?_, ?_, ?_, ?_, ?_, ?_, ?_, trivial⟩ ?_
     all_goals clear hs
     · rintro L f w _ hL ⟨D, B, A, E, C, aD, aw, av, Iq, p, rfl, hs, x, af, aA, az⟩
       refine oF (b := aF) (o := 0) fl81_2 aL ?_
       exact oN ⟨rfl, rfl, D, B, A, E, C, aD, aw, av, Iq, p, fS rfl rfl, hs, (fun h => x h), (fun h => af h), aA, az⟩
     · rintro L f w ⟨a6, _⟩ hL ⟨D, B, A, E, C, aD, aw, av, Iq, p, rfl, hs, x, af, aA, az⟩
       replace hs := hs.eqv (k := 2) rfl ((rL_f (show L 8 = false from pF aA hL) (rL_n)))
       refine ld1 (k := 2) hs rfl (fG rfl a6) ty24 rfl ?_
       replace hs := hs.eqv (k := 2) rfl (Eq.symm (a := rL [(8, blk aF 81 (cL16 l j aw ((c ++ [N.1]).length) av 0 none 0 0))] (blk aF 81 (cL16 l j e c.length d 0 none 0 0)) (setL L 1)) (((rL_f (L := setL L 1) (show L 8 = false from pF aA hL) (rL_n)))))
       exact oN ⟨rfl, rfl, D, B, A, E, C, aD, aw, av, Iq, p, fS rfl rfl, hs, (fun h => x h), (fun h => af h), (fun _ => rfl), az⟩
     · rintro L f w _ hL ⟨D, B, A, E, C, aD, aw, av, Iq, p, rfl, hs, x, af, aA, az⟩
       refine ld1 (k := 3) hs rfl bb ty142 rfl ?_
       exact oN ⟨rfl, rfl, D, B, A, E, C, aD, aw, av, Iq, p, fS rfl rfl, hs, (fun h => x h), (fun h => af h), aA, az⟩
     · rintro L f w _ hL ⟨D, B, A, E, C, aD, aw, av, Iq, p, rfl, hs, x, af, aA, az⟩
       refine mI rfl ?_
       exact oN ⟨rfl, rfl, D, B, A, E, C, aD, aw, av, Iq, p, fS rfl rfl, hs, (fun h => x h), (fun h => af h), aA, az⟩
     · rintro L f w ⟨aU, a0, _⟩ hL ⟨D, B, A, E, C, aD, aw, av, Iq, p, rfl, hs, x, af, aA, az⟩
       replace hs := hs.eqv (k := 4) rfl ((rL_f hL (rL_n)))
       replace hs := hs.eqv (k := 5) rfl ((rL_f hL (rL_n)))
       replace hs := hs.eqv (k := 6) rfl ((rL_f hL (rL_n)))
       replace hs := hs.eqv (k := 7) rfl ((rL_f hL (rL_n)))
       replace hs := hs.front (k := 4) rfl
       replace hs := hs.front (k := 5) rfl
       replace hs := hs.front (k := 7) rfl
       replace hs := hs.front (k := 7) rfl
       replace ay := ay.mono ((((a9.trans a8).trans bf).trans be).trans p); replace au := au.mono p
       refine oC (fi := []) (vs := [pQ ax 0, iN ab]) (ca := []) rfl ⟨(fG rfl aU), (fG rfl a0), trivial⟩ en37 (f37_ok _ _ _ _ _ _ _ _ _ _ _ ct hs ay au) ?_
       clear hs; rintro _ w ⟨cN, E, C, D, B, A, bO, hs, rfl, hNz348_r30⟩
       replace hs := hs.front (k := 10) rfl
       replace hs := hs.front (k := 10) rfl
       replace hs := hs.front (k := 10) rfl
       replace hs := hs.front (k := 4) rfl
       replace hs := hs.front (k := 4) rfl
       replace hs := hs.front (k := 5) rfl
       replace hs := hs.front (k := 6) rfl
       replace hs := hs.front (k := 10) rfl
       replace hs := hs.front (k := 10) rfl
       replace hs := hs.front (k := 10) rfl
       replace hs := hs.front (k := 10) rfl
       exact oN ⟨rfl, rfl, D, B, A, E, C, aD, aw, av, cN, (p.trans bO), (Eq.trans (fSG (i := 4) rfl rfl) (rfl)), hs, (fun _ => hNz348_r30), (fun h => (af h).mono bO), aA, az⟩
     · rintro L f w ⟨aR, _⟩ hL ⟨D, B, A, E, C, aD, aw, av, Iq, p, rfl, hs, x, af, aA, az⟩
       have hNz348_r30 := x aR
       refine ow_buildSlice (vp := [(0, iN N.1)]) (cs := [iN N.1]) hs sl24 ty3 rfl ⟨rfl, (fG rfl aR), trivial⟩ (by decide) rfl (by decide) ?_
       clear hs; intro aD cp w bN hs aO
       replace aO : Rs cp 1 aD [N.1].length 1 ([N.1].flatMap e64) := aO
       exact oN ⟨rfl, rfl, D, B, A, E, C, aD, aw, av, cp, (p.trans bN), (Eq.trans (fSG (i := 5) rfl rfl) (rfl)), hs, (fun h => (x h).mono bN), (fun _ => aO), aA, az⟩
     · rintro L f w ⟨aX, aZ, aR, _⟩ hL ⟨D, B, A, E, C, aD, aw, av, Iq, p, rfl, hs, x, af, aA, az⟩
       have hNz348_r30 := x aR
       have aO := af aZ
       replace hs := hs.eqv (k := 0) rfl ((rL_f hL (rL_n)))
       replace hs := hs.eqv (k := 2) rfl ((rL_f (show L 8 = false from pF az hL) (rfl)))
       refine ow_appendT (k := 0) (enc := e64) (X := c) (Y := [N.1]) hs rfl sl24 ty3 el3 rfl (fG rfl aX) (fG rfl aZ) aO (fun _ => rfl) cz (by decide) ?_
       clear hs; intro aw av w hs
       replace hs := hs.eqv (k := 2) rfl (Eq.symm (a := rL [(8, blk aF 81 (cL16 l j aw ((c ++ [N.1]).length) av 0 none 0 0))] (blk aF 81 (cL16 l j e c.length d 0 none 0 0)) (setL L 6)) (((rL_f (L := setL L 6) (show L 8 = false from pF az hL) (rfl)))))
       exact oN ⟨rfl, rfl, D, B, A, E, C, aD, aw, av, Iq, p, (Eq.trans (fSG (i := 6) rfl rfl) (rfl)), hs, (fun h => x h), (fun h => af h), aA, (fun _ => rfl)⟩
     · rintro L f w ⟨a6, aX, aU, a0, aR, aZ, aW, _⟩ hL ⟨D, B, A, E, C, aD, aw, av, Iq, p, rfl, hs, x, af, aA, az⟩
       have hNz348_r30 := x aR
       have aO := af aZ
       refine oF (b := aF) (o := 0) fl81_2 aL ?_
       exact oN ⟨rfl, rfl, D, B, A, E, C, aD, aw, av, Iq, p, fS rfl rfl, hs, (fun h => x h), (fun h => af h), aA, az⟩
     · rintro L f w ⟨bp, aW, _, a6, aX, aU, a0, aR, aZ, _, _⟩ hL ⟨D, B, A, E, C, aD, aw, av, Iq, p, rfl, hs, x, af, aA, az⟩
       have hNz348_r30 := x aR
       have aO := af aZ
       replace hs := hs.eqv (k := 2) rfl ((rL_f hL (rL_n)))
       refine oS (k := 2) (vs := [.slice aw ((c ++ [N.1]).length) av]) (cs' := (cL16 l j aw ((c ++ [N.1]).length) av 0 none 0 0)) hs rfl (fG rfl bp) (fG rfl aW) ty24 rfl rfl (nLe rfl) rfl rfl ?_
       clear hs; intro w hs
       exact oN ⟨rfl, rfl, D, B, A, E, C, aD, aw, av, Iq, p, frL_no rfl, hs, (fun h => x h), (fun h => af h), (fun _ => aX), (fun _ => aW)⟩
     rintro L f w hall ⟨D, B, A, E, C, aD, aw, av, cS, cj, rfl, hs, hNz348_r30, aO, _, _⟩
     rw [frL_tt _ rfl hall]
     replace hs := hs.eqv (k := 0) rfl (rL_t (hall 6 (nLe rfl)))
     replace hs := hs.eqv (k := 2) rfl (rL_t (hall 8 (nLe rfl)))
     replace hs := hs.eqv (k := 4) rfl (rL_t (hall 4 (nLe rfl)))
     replace hs := hs.eqv (k := 5) rfl (rL_t (hall 4 (nLe rfl)))
     replace hs := hs.eqv (k := 6) rfl (rL_t (hall 4 (nLe rfl)))
     replace hs := hs.eqv (k := 7) rfl (rL_t (hall 4 (nLe rfl)))
     replace hNz348_r30 := hNz348_r30 (hall 4 (nLe rfl))
     replace aO := aO (hall 5 (nLe rfl))
     refine blockK_n <| sK <| cR <| oV (x_add a3 rfl) rfl <| mI rfl <| oN ?_
     exact lN ⟨k, Nat.lt_succ_self k, w64 (ab + 1), c ++ [N.1], N.2.2.2.2.2.2.2.2.2, N.2.2.2.2.2.2.2.2.1, N.2.1, N.2.2.1, N.2.2.2.1, N.2.2.2.2.1, N.2.2.2.2.2.1, N.2.2.2.2.2.2.1, N.2.2.2.2.2.2.2.1, aw, av, D, B, A, E, C, cS, rfl, (be.trans cj), hm, hs, bu, bt, bs, bb, aL, bh, bg, rfl, hNz348_r30⟩
   rw [if_neg bB] at hm
   refine cIf rfl (dF bB) <| cw_exit <| seqK_x <| loopK_x <| blockK_hit ?_
   obtain rfl := oJ hm
   refine jN ⟨e, d, aC, aB, aG, M, K, bm, rfl, be, hs, bu, bt, bs, bb, aL, au⟩
 clear hm hs
 rintro f ds w ⟨e, d, aC, aB, aG, M, K, bW, rfl, bM, hs, aV, br, cB, a7, aY, aN⟩
 replace hm := cw
 refine cQ <| cR <| oL (k := 10) (vs := (cL8 l j t z s.length y)) (v := .agg (cL8 l j t z s.length y).toArray) hs rfl aV ty33 rfl rfl rfl ?_
 replace hs := hs.front (k := 10) rfl
 obtain ⟨c3, bx, aQ, hs⟩ := hs.freezeB
 replace hs := hs.front (k := 3) rfl
 obtain ⟨c1, bd, a1, hs⟩ := hs.freezeB
 refine oV (x_funcL (vf := []) (vc := [pQ b1 0, pQ ba 0]) trivial ⟨aV, a7, trivial⟩) rfl ?_
 replace hs := hs.front (k := 3) rfl
 replace hs := hs.front (k := 4) rfl
 replace hs := hs.front (k := 6) rfl
 replace hs := hs.front (k := 6) rfl
 obtain ⟨T, cr, hm⟩ := bS hm
 replace ay := ay.mono (((((a9.trans a8).trans bf).trans bM).trans bx).trans bd); replace aN := aN.mono (bx.trans bd); replace aQ := aQ.mono bd
 refine oC (fi := []) (vs := [.agg (cL8 l j t z s.length y).toArray, .func (.func 39) #[] #[pQ b1 0, pQ ba 0]]) (ca := []) rfl ⟨rfl, rfl, trivial⟩ en38 (f38a_ok _ _ _ _ _ _ _ _ _ _ _ _ _ _ _ _ _ _ cr hs ay ay aQ ay aN a1) ?_
 clear hs; rintro _ w ⟨co, bl, bk, ad, ac, bC, a5, hs, rfl, hNz369_r30⟩
 refine oN <| sQR ?_
 refine cD mixed rfl (fun f0 L f w => ∃ (Iq : Im), Im.le co Iq ∧ f = frL [(94, 0, pQ ax 0), (95, 1, pQ ax 0), (96, 2, pQ ax 7), (97, 3, .map (some aJ)), (98, 4, pQ b1 2), (99, 5, iN t), (100, 6, pQ b1 3), (101, 7, .slice z s.length y), (102, 8, iN (s.length : Int)), (103, 9, iN (w64 (t + (s.length : Int)))), (104, 10, iN (w64 ((w64 (t + (s.length : Int))) - 1))), (105, 11, iN (getM T.2.2.2.2.2.2.1 (w64 ((w64 (t + (s.length : Int))) - 1)) 0)), (106, 12, pQ aF 3)] L f0 ∧ Sat Iq (blk ax 145 [iN T.1, iN T.2.1, iN T.2.2.1, .slice z s.length y, iN T.2.2.2.1, iN T.2.2.2.2.1, iN T.2.2.2.2.2.1, .map (some aJ), .slice bl T.2.2.2.2.2.2.2.1.length bk, .slice ad T.2.2.2.2.2.2.2.2.length ac] :: mq aJ vi64 T.2.2.2.2.2.2.1 :: osl 3 1 bl T.2.2.2.2.2.2.2.1.length bk (T.2.2.2.2.2.2.2.1.flatMap e64) :: osl 168 12 ad T.2.2.2.2.2.2.2.2.length ac bC :: osl 3 1 e Q.1.length d (Q.1.flatMap e64) :: mq O vi64 aM :: rL [(13, blk aF 81 (cL16 l j e Q.1.length d (getM T.2.2.2.2.2.2.1 (w64 ((w64 (t + (s.length : Int))) - 1)) 0) none 0 0))] (blk aF 81 (cL16 l j e Q.1.length d 0 none 0 0)) L :: blk b5 81 (cL16 0 0 none 0 0 0 none 0 0) :: blk b3 46 (cL1 aa Z R) :: F) w) ⟨co, iR, (frL_ff _).symm, hs.drew⟩ ⟨?_, ?_, ?_, ?_, ?_, ?_, ?_, ?_, ?_, ?_, ?_, ?_, ?_, ?_, trivial⟩ ?_
 all_goals clear hs
 · rintro L f w _ hL ⟨Iq, p, rfl, hs⟩
   replace a1 := a1.mono (a5.trans p)
   refine ld1I hs a1 a7 ty142 rfl ?_
   exact oN ⟨rfl, rfl, Iq, p, fS rfl rfl, hs⟩
 · rintro L f w ⟨a6, _⟩ hL ⟨Iq, p, rfl, hs⟩
   refine oV (x_nilCheck (fG rfl a6)) rfl ?_
   exact oN ⟨rfl, rfl, Iq, p, fS rfl rfl, hs⟩
 · rintro L f w ⟨aX, _⟩ hL ⟨Iq, p, rfl, hs⟩
   refine oF (b := ax) (o := 0) fl145_2 (fG rfl aX) ?_
   exact oN ⟨rfl, rfl, Iq, p, fS rfl rfl, hs⟩
 · rintro L f w ⟨aU, _⟩ hL ⟨Iq, p, rfl, hs⟩
   refine ld1 (k := 0) hs rfl (fG rfl aU) ty143 rfl ?_
   exact oN ⟨rfl, rfl, Iq, p, fS rfl rfl, hs⟩
 · rintro L f w _ hL ⟨Iq, p, rfl, hs⟩
   refine oF (b := b1) (o := 0) fl33_2 aV ?_
   exact oN ⟨rfl, rfl, Iq, p, fS rfl rfl, hs⟩
 · rintro L f w ⟨aR, _⟩ hL ⟨Iq, p, rfl, hs⟩
   replace aQ := aQ.mono (a5.trans p)
   refine ld1I hs aQ (fG rfl aR) ty3 rfl ?_
   exact oN ⟨rfl, rfl, Iq, p, fS rfl rfl, hs⟩
 · rintro L f w _ hL ⟨Iq, p, rfl, hs⟩
   refine oF (b := b1) (o := 0) fl33_3 aV ?_
   exact oN ⟨rfl, rfl, Iq, p, fS rfl rfl, hs⟩
 · rintro L f w ⟨aW, _⟩ hL ⟨Iq, p, rfl, hs⟩
   replace aQ := aQ.mono (a5.trans p)
   refine ld1I hs aQ (fG rfl aW) ty31 rfl ?_
   exact oN ⟨rfl, rfl, Iq, p, fS rfl rfl, hs⟩
 · rintro L f w ⟨bp, _⟩ hL ⟨Iq, p, rfl, hs⟩
   refine oV (x_len sl31 (fG rfl bp)) rfl ?_
   exact oN ⟨rfl, rfl, Iq, p, fS rfl rfl, hs⟩
 · rintro L f w ⟨aZ, cb, _⟩ hL ⟨Iq, p, rfl, hs⟩
   refine oV (x_add (fG rfl aZ) (fG rfl cb)) rfl ?_
   exact oN ⟨rfl, rfl, Iq, p, fS rfl rfl, hs⟩
 · rintro L f w ⟨b9, _⟩ hL ⟨Iq, p, rfl, hs⟩
   refine oV (x_sub (fG rfl b9) rfl) rfl ?_
   exact oN ⟨rfl, rfl, Iq, p, fS rfl rfl, hs⟩
 · rintro L f w ⟨a0, cc, _⟩ hL ⟨Iq, p, rfl, hs⟩
   refine ow_lookupQ (q := 1) (k := (w64 ((w64 (t + (s.length : Int))) - 1))) (zv := 0) (v := iN (getM T.2.2.2.2.2.2.1 (w64 ((w64 (t + (s.length : Int))) - 1)) 0)) mt143 mz143 hs rfl (fG rfl a0) (fG rfl cc) rfl ?_
   exact oN ⟨rfl, rfl, Iq, p, fS rfl rfl, hs⟩
 · rintro L f w ⟨a6, aX, aU, a0, aR, aZ, aW, bp, cb, b9, cc, cm, _⟩ hL ⟨Iq, p, rfl, hs⟩
   refine oF (b := aF) (o := 0) fl81_3 aY ?_
   exact oN ⟨rfl, rfl, Iq, p, fS rfl rfl, hs⟩
 · rintro L f w ⟨cI, cm, a6, aX, aU, a0, aR, aZ, aW, bp, cb, b9, cc, _, _⟩ hL ⟨Iq, p, rfl, hs⟩
   replace hs := hs.eqv (k := 6) rfl ((rL_f hL (rL_n)))
   refine oS (k := 6) (vs := [iN (getM T.2.2.2.2.2.2.1 (w64 ((w64 (t + (s.length : Int))) - 1)) 0)]) (cs' := (cL16 l j e Q.1.length d (getM T.2.2.2.2.2.2.1 (w64 ((w64 (t + (s.length : Int))) - 1)) 0) none 0 0)) hs rfl (fG rfl cI) (fG rfl cm) ty3 rfl rfl (nLe rfl) rfl rfl ?_
   clear hs; intro w hs
   exact oN ⟨rfl, rfl, Iq, p, frL_no rfl, hs⟩
 rintro L f w hall ⟨c5, bw, rfl, hs⟩
 rw [frL_tt _ rfl hall]
 replace hs := hs.eqv (k := 6) rfl (rL_t (hall 13 (nLe rfl)))
 refine sQR <| cR ?_
 replace a1 := a1.mono (a5.trans bw)
 refine ld1I hs a1 a7 ty142 rfl <| oV (x_nilCheck rfl) rfl <| oF (b := ax) (o := 0) fl145_4 rfl <| ld1 (k := 0) hs rfl rfl ty79 rfl <| oF (b := aF) (o := 0) fl81_4 aY <| oS (k := 6) (vs := [.slice ad T.2.2.2.2.2.2.2.2.length ac]) (cs' := (cL16 l j e Q.1.length d (getM T.2.2.2.2.2.2.1 (w64 ((w64 (t + (s.length : Int))) - 1)) 0) ad T.2.2.2.2.2.2.2.2.length ac)) hs rfl rfl rfl ty79 rfl rfl (nLe rfl) rfl rfl ?_
 clear hs; intro w hs
 refine oN <| sQR <| cR <| oL (k := 6) (vs := (cL16 l j e Q.1.length d (getM T.2.2.2.2.2.2.1 (w64 ((w64 (t + (s.length : Int))) - 1)) 0) ad T.2.2.2.2.2.2.2.2.length ac)) (v := .agg (cL16 l j e Q.1.length d (getM T.2.2.2.2.2.2.1 (w64 ((w64 (t + (s.length : Int))) - 1)) 0) ad T.2.2.2.2.2.2.2.2.length ac).toArray) hs rfl aY ty81 rfl rfl rfl <| oS (k := 7) (vs := (cL16 l j e Q.1.length d (getM T.2.2.2.2.2.2.1 (w64 ((w64 (t + (s.length : Int))) - 1)) 0) ad T.2.2.2.2.2.2.2.2.length ac)) (cs' := (cL16 l j e Q.1.length d (getM T.2.2.2.2.2.2.1 (w64 ((w64 (t + (s.length : Int))) - 1)) 0) ad T.2.2.2.2.2.2.2.2.length ac)) hs rfl br rfl ty81 rfl rfl (nLe rfl) rfl rfl ?_
 clear hs; intro w hs
 refine asI rfl <| oN <| sK <| cw_ret <| rK (rs := [.cell 4 81, .tmp 5]) (vs := [.agg (cL16 l j e Q.1.length d (getM T.2.2.2.2.2.2.1 (w64 ((w64 (t + (s.length : Int))) - 1)) 0) ad T.2.2.2.2.2.2.2.2.length ac).toArray, iN 0]) (.inr rfl) rfl ⟨⟨_, true, _, (cL16 l j e Q.1.length d (getM T.2.2.2.2.2.2.1 (w64 ((w64 (t + (s.length : Int))) - 1)) 0) ad T.2.2.2.2.2.2.2.2.length ac), br, ty81, CA_blk (off := 0) (m := 5) (hs.blk (k := 7) rfl), rfl, rfl⟩, rfl, trivial⟩ ?_
 obtain rfl := oJ hm
 replace hs := hs.front (k := 4) rfl
 obtain ⟨c0, bL, bE, hs⟩ := hs.freezeO
 replace hs := hs.front (k := 3) rfl
 obtain ⟨cn, bv, bD, hs⟩ := hs.freezeO
 replace hNz369_r30 := hNz369_r30.mono ((bw.trans bL).trans bv)
 replace bD : SN168 cn ad T.2.2.2.2.2.2.2.2.length ac T.2.2.2.2.2.2.2.2 := ⟨_, bD, hNz369_r30⟩
 replace hs := hs.erase 0
 replace hs := hs.erase 0
 replace hs := hs.erase 0
 replace hs := hs.erase 0
 replace hs := hs.erase 0
 replace hs := hs.erase 0
 replace hs := hs.erase 0
 replace bE := bE.mono bv
 exact ⟨cn, e, d, ad, ac, (((((((((((bj.trans bz).trans a9).trans a8).trans bf).trans bM).trans bx).trans bd).trans a5).trans bw).trans bL).trans bv), hs, rfl, bE, bD⟩
end Go.HL.Tz
