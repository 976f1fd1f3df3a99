/- The walks of some functions, printed by a program of ours (gox). -/
import Derived.Test.YtllfmfoahloldaaGreatZK
set_option linter.unusedVariables false
set_option linter.unusedSimpArgs false
set_option maxRecDepth 100000
set_option maxHeartbeats 400000
namespace Go.HL.Tz
open Go.HL
attribute [local irreducible] OW CW CV
def enc35 (x : T1x) : List Value := [iN x.1, iN x.2.1, iN x.2.2.1, iN x.2.2.2.1, iN x.2.2.2.2]
theorem fl46_0 : FldT P 46 0 0 := ⟨by kernel_rfl⟩
theorem en59 : Proofs.Enters P 59 := Proofs.enters_of Proofs.Tryz.func59 (by kernel_rfl) rfl
theorem fl46_1 : FldT P 46 1 1 := ⟨by kernel_rfl⟩
theorem fl46_2 : FldT P 46 2 2 := ⟨by kernel_rfl⟩
theorem fl33_0 : FldT P 33 0 0 := ⟨by kernel_rfl⟩
theorem fl33_1 : FldT P 33 1 1 := ⟨by kernel_rfl⟩
theorem fl42_0 : FldT P 42 0 0 := ⟨by kernel_rfl⟩
theorem fl42_1 : FldT P 42 1 1 := ⟨by kernel_rfl⟩
theorem fl42_2 : FldT P 42 2 2 := ⟨by kernel_rfl⟩
theorem fl42_3 : FldT P 42 3 3 := ⟨by kernel_rfl⟩
theorem fl42_4 : FldT P 42 4 8 := ⟨by kernel_rfl⟩
theorem en104 : Proofs.Enters P 104 := Proofs.enters_of Proofs.Tryz.func104 (by kernel_rfl) rfl
theorem fl42_7 : FldT P 42 7 13 := ⟨by kernel_rfl⟩
theorem fl33_2 : FldT P 33 2 2 := ⟨by kernel_rfl⟩
theorem fl33_3 : FldT P 33 3 3 := ⟨by kernel_rfl⟩
theorem ty31 : TyC P 31 false [.slice none 0 0] := ⟨by kernel_rfl, by kernel_rfl, (fun _ => rfl), by kernel_rfl⟩
theorem sl31 : SliceT P 31 42 := (by kernel_rfl : P.underlying 31 = some (.slice 42))
theorem ty42 : TyC P 42 true [.int .u8 0, iN 0, iN 0, iN 0, iN 0, iN 0, iN 0, iN 0, .int .u8 0, iN 0, iN 0, .slice none 0 0, .int .u8 0, iN 0, iN 0, .slice none 0 0] := ⟨by kernel_rfl, by kernel_rfl, (fun h => by cases h), by kernel_rfl⟩
theorem en60 : Proofs.Enters P 60 := Proofs.enters_of Proofs.Tryz.func60 (by kernel_rfl) rfl
theorem en61 : Proofs.Enters P 61 := Proofs.enters_of Proofs.Tryz.func61 (by kernel_rfl) rfl
theorem mt143 : MapT P 143 3 3 := ⟨by kernel_rfl, by kernel_rfl⟩
theorem mz143 (w : World) : (zeroValue 3).run P w = .ok (vi64 0) w := ((ty3).run_zero w).trans rfl
theorem sl147 : SliceT P 147 152 := (by kernel_rfl : P.underlying 147 = some (.slice 152))
theorem st152 : StrT P 152 [(0, 16), (16, 1), (17, 1), (18, 1)] := ⟨by kernel_rfl⟩
theorem ty152 : TyC P 152 true [.int .u8 0, iN 0, iN 0, iN 0, iN 0, iN 0, iN 0, iN 0, .int .u8 0, iN 0, iN 0, .slice none 0 0, .int .u8 0, iN 0, iN 0, .slice none 0 0, .slice none 0 0, .slice none 0 0, iN 0] := ⟨by kernel_rfl, by kernel_rfl, (fun h => by cases h), by kernel_rfl⟩
theorem el152 : ElT P 152 [.int .u8 0, iN 0, iN 0, iN 0, iN 0, iN 0, iN 0, iN 0, .int .u8 0, iN 0, iN 0, .slice none 0 0, .int .u8 0, iN 0, iN 0, .slice none 0 0, .slice none 0 0, .slice none 0 0, iN 0] 216 := ⟨by kernel_rfl⟩
theorem fl152_2 : FldT P 152 2 17 := ⟨by kernel_rfl⟩
theorem ty33 : TyC P 33 true [iN 0, iN 0, iN 0, .slice none 0 0] := ⟨by kernel_rfl, by kernel_rfl, (fun h => by cases h), by kernel_rfl⟩
theorem en36 : Proofs.Enters P 36 := Proofs.enters_of Proofs.Tryz.func36 (by kernel_rfl) rfl
theorem en35 : Proofs.Enters P 35 := Proofs.enters_of Proofs.Tryz.func35 (by kernel_rfl) rfl
theorem mt153 : MapT P 153 3 4 := ⟨by kernel_rfl, by kernel_rfl⟩
theorem fl152_3 : FldT P 152 3 18 := ⟨by kernel_rfl⟩
theorem en62 : Proofs.Enters P 62 := Proofs.enters_of Proofs.Tryz.func62 (by kernel_rfl) rfl
theorem en38 : Proofs.Enters P 38 := Proofs.enters_of Proofs.Tryz.func38 (by kernel_rfl) rfl
def rl42 (I : Im) (x : T2x) (vs : List Value) : Prop := ∃ (a11 : Option Addr) (c11 : Nat) (a15 : Option Addr) (c15 : Nat), vs = [.int .u8 x.1, iN x.2.1, iN x.2.2.1, iN x.2.2.2.1, iN x.2.2.2.2.1, iN x.2.2.2.2.2.1, iN x.2.2.2.2.2.2.1, iN x.2.2.2.2.2.2.2.1, .int .u8 x.2.2.2.2.2.2.2.2.1, iN x.2.2.2.2.2.2.2.2.2.1, iN x.2.2.2.2.2.2.2.2.2.2.1, .slice a11 x.2.2.2.2.2.2.2.2.2.2.2.1.length c11, .int .u8 x.2.2.2.2.2.2.2.2.2.2.2.2.1, iN x.2.2.2.2.2.2.2.2.2.2.2.2.2.1, iN x.2.2.2.2.2.2.2.2.2.2.2.2.2.2.1, .slice a15 x.2.2.2.2.2.2.2.2.2.2.2.2.2.2.2.length c15] ∧ Rs I 1 a11 x.2.2.2.2.2.2.2.2.2.2.2.1.length c11 (x.2.2.2.2.2.2.2.2.2.2.2.1.flatMap e64) ∧ Rs I 1 a15 x.2.2.2.2.2.2.2.2.2.2.2.2.2.2.2.length c15 (x.2.2.2.2.2.2.2.2.2.2.2.2.2.2.2.flatMap eB)
theorem rl42.len {I : Im} : ∀ x vs, rl42 I x vs → vs.length = 16 := by rintro x vs ⟨a11, c11, a15, c15, rfl, h11, h15⟩; rfl
theorem rl42.one {I : Im} : ∀ x vs, rl42 I x vs → vs.all Value.oneCell' = true := by rintro x vs ⟨a11, c11, a15, c15, rfl, h11, h15⟩; rfl
theorem rl42.mono {I J : Im} (hle : Im.le I J) : ∀ x vs, rl42 I x vs → rl42 J x vs := by rintro x vs ⟨a11, c11, a15, c15, rfl, h11, h15⟩; exact ⟨a11, c11, a15, c15, rfl, h11.mono hle, h15.mono hle⟩
def NN42 (I : Im) (xs : List (T2x)) (cs : List Value) : Prop := NL (rl42 I) xs cs
theorem NN42.mono {I J : Im} {xs : List (T2x)} {cs : List Value} (h : NN42 I xs cs) (hle : Im.le I J) : NN42 J xs cs := NL.mono (rl42.mono hle) h
def SN42 (I : Im) (a : Option Addr) (n c : Nat) (xs : List (T2x)) : Prop := ∃ cs, Rs I 16 a n c cs ∧ NN42 I xs cs
theorem SN42.mono {I J : Im} {a : Option Addr} {n c : Nat} {xs : List (T2x)} (h : SN42 I a n c xs) (hle : Im.le I J) : SN42 J a n c xs := by obtain ⟨cs, h1, h2⟩ := h; exact ⟨cs, h1.mono hle, h2.mono hle⟩
theorem SN42.some {I : Im} {a : Option Addr} {n c : Nat} {xs : List (T2x)} (h : SN42 I a n c xs) (hn : 0 < n) : a.isSome = true := by obtain ⟨cs, h1, _⟩ := h; exact h1.some hn
theorem SN42.nil (I : Im) (a : Option Addr) : SN42 I a 0 0 [] := ⟨[], Rs.nil _ _ _, NL.nil⟩
def rl152 (I : Im) (x : T3x) (vs : List Value) : Prop := ∃ (a11 : Option Addr) (c11 : Nat) (a15 : Option Addr) (c15 : Nat) (a16 : Option Addr) (c16 : Nat) (a17 : Option Addr) (c17 : Nat), vs = [.int .u8 x.1, iN x.2.1, iN x.2.2.1, iN x.2.2.2.1, iN x.2.2.2.2.1, iN x.2.2.2.2.2.1, iN x.2.2.2.2.2.2.1, iN x.2.2.2.2.2.2.2.1, .int .u8 x.2.2.2.2.2.2.2.2.1, iN x.2.2.2.2.2.2.2.2.2.1, iN x.2.2.2.2.2.2.2.2.2.2.1, .slice a11 x.2.2.2.2.2.2.2.2.2.2.2.1.length c11, .int .u8 x.2.2.2.2.2.2.2.2.2.2.2.2.1, iN x.2.2.2.2.2.2.2.2.2.2.2.2.2.1, iN x.2.2.2.2.2.2.2.2.2.2.2.2.2.2.1, .slice a15 x.2.2.2.2.2.2.2.2.2.2.2.2.2.2.2.1.length c15, .slice a16 x.2.2.2.2.2.2.2.2.2.2.2.2.2.2.2.2.1.length c16, .slice a17 x.2.2.2.2.2.2.2.2.2.2.2.2.2.2.2.2.2.1.length c17, iN x.2.2.2.2.2.2.2.2.2.2.2.2.2.2.2.2.2.2] ∧ Rs I 1 a11 x.2.2.2.2.2.2.2.2.2.2.2.1.length c11 (x.2.2.2.2.2.2.2.2.2.2.2.1.flatMap e64) ∧ Rs I 1 a15 x.2.2.2.2.2.2.2.2.2.2.2.2.2.2.2.1.length c15 (x.2.2.2.2.2.2.2.2.2.2.2.2.2.2.2.1.flatMap eB) ∧ Rs I 5 a16 x.2.2.2.2.2.2.2.2.2.2.2.2.2.2.2.2.1.length c16 (x.2.2.2.2.2.2.2.2.2.2.2.2.2.2.2.2.1.flatMap enc35) ∧ Rs I 1 a17 x.2.2.2.2.2.2.2.2.2.2.2.2.2.2.2.2.2.1.length c17 (x.2.2.2.2.2.2.2.2.2.2.2.2.2.2.2.2.2.1.flatMap e64)
theorem rl152.len {I : Im} : ∀ x vs, rl152 I x vs → vs.length = 19 := by rintro x vs ⟨a11, c11, a15, c15, a16, c16, a17, c17, rfl, h11, h15, h16, h17⟩; rfl
theorem rl152.one {I : Im} : ∀ x vs, rl152 I x vs → vs.all Value.oneCell' = true := by rintro x vs ⟨a11, c11, a15, c15, a16, c16, a17, c17, rfl, h11, h15, h16, h17⟩; rfl
theorem rl152.mono {I J : Im} (hle : Im.le I J) : ∀ x vs, rl152 I x vs → rl152 J x vs := by rintro x vs ⟨a11, c11, a15, c15, a16, c16, a17, c17, rfl, h11, h15, h16, h17⟩; exact ⟨a11, c11, a15, c15, a16, c16, a17, c17, rfl, h11.mono hle, h15.mono hle, h16.mono hle, h17.mono hle⟩
def NN152 (I : Im) (xs : List (T3x)) (cs : List Value) : Prop := NL (rl152 I) xs cs
theorem NN152.mono {I J : Im} {xs : List (T3x)} {cs : List Value} (h : NN152 I xs cs) (hle : Im.le I J) : NN152 J xs cs := NL.mono (rl152.mono hle) h
def SN152 (I : Im) (a : Option Addr) (n c : Nat) (xs : List (T3x)) : Prop := ∃ cs, Rs I 19 a n c cs ∧ NN152 I xs cs
theorem SN152.mono {I J : Im} {a : Option Addr} {n c : Nat} {xs : List (T3x)} (h : SN152 I a n c xs) (hle : Im.le I J) : SN152 J a n c xs := by obtain ⟨cs, h1, h2⟩ := h; exact ⟨cs, h1.mono hle, h2.mono hle⟩
theorem SN152.some {I : Im} {a : Option Addr} {n c : Nat} {xs : List (T3x)} (h : SN152 I a n c xs) (hn : 0 < n) : a.isSome = true := by obtain ⟨cs, h1, _⟩ := h; exact h1.some hn
theorem SN152.nil (I : Im) (a : Option Addr) : SN152 I a 0 0 [] := ⟨[], Rs.nil _ _ _, NL.nil⟩
def f59_m (d : Int) (h : Int) (e : Int) : Option Bool :=
  ((if h ≤ d then some (decide (d ≤ e)) else some false).bind fun k => some k)
theorem f59_ok (d : Int) (h : Int) (e : Int) {r : Bool} (hm : f59_m d h e = some r)  {I : Im} {F : List HP} {w : World} (hs : Sat I (F) w)  :
    CV P 59 (cL1 d h e) w fun v w' => ∃ (J : Im), Im.le I J ∧ Sat J (F) w' ∧ v = .bool r := by
 unfold f59_m at hm
 refine cv_of (n := 15) Proofs.Tryz.func59 rfl rfl (nLe rfl) <| cQ <| cR <| asB rfl <| oN <| sQR <| cR <| mI rfl <| mI rfl <| oV (x_geq rfl rfl) rfl <| mB rfl ?_
 obtain ⟨k, c, hm⟩ := bS hm
 refine oJN 4 (fun f ds w => ∃ (l : Im), ds = [] ∧ Im.le I l ∧ Sat l (F) w ∧ f 14 = .bool k ∧ f 6 = .bool false) ?_ ?_
 · by_cases a : h ≤ d
   · rw [if_pos a] at c
     refine oG (yO rfl rfl (dT a)) <| mI rfl <| oG (yO rfl rfl (dT a)) <| mI rfl <| oG (yO rfl rfl (dT a)) <| oV (x_leq rfl rfl) rfl <| oV (xPt (v := .bool (decide (d ≤ e))) ((rfl : ev _ _ _ = _).trans (congrArg Value.bool (dT a))) rfl) rfl <| oN ?_
     obtain rfl := oJ c
     exact ⟨I, rfl, iR, hs, rfl, rfl⟩
   rw [if_neg a] at c
   refine oO (b := false) (yO rfl rfl (dF a)) rfl <| oO (b := false) (yO rfl rfl (dF a)) rfl <| oO (b := false) (yO rfl rfl (dF a)) rfl <| oV (xPf (v := .bool false) ((rfl : ev _ _ _ = _).trans (congrArg Value.bool (dF a))) rfl) rfl <| oN ?_
   obtain rfl := oJ c
   exact ⟨I, rfl, iR, hs, rfl, rfl⟩
 clear c hs
 rintro f ds w ⟨l, rfl, i, hs, htbb1, j⟩
 refine asB htbb1 <| oN <| sK <| cw_ret <| rK (rs := [.tmp 6]) (vs := [.bool k]) (.inr rfl) rfl ⟨rfl, trivial⟩ ?_
 obtain rfl := oJ hm
 exact ⟨l, i, hs, rfl⟩
def f33_m (i : Int) (h : Int) (e : Int) : Option Bool :=
  ((f59_m i 1 16).bind fun K => ((if K = true then ((f59_m h 2 16).bind fun t => some t) else some false).bind fun H => ((if H = true then ((f59_m e 1 8192).bind fun s => some s) else some false).bind fun p => some p)))
theorem f33_ok (i : Int) (h : Int) (e : Int) {r : Bool} (hm : f33_m i h e = some r)  {I : Im} {F : List HP} {w : World} (hs : Sat I (F) w)  :
    CV P 33 [.agg (cL1 i h e).toArray] w fun v w' => ∃ (J : Im), Im.le I J ∧ Sat J (F) w' ∧ v = .bool r := by
 unfold f33_m at hm
 refine cv_of (n := 16) Proofs.Tryz.func33 rfl rfl (nLe rfl) <| cQ <| cR <| oB (v := .agg (cL1 i h e).toArray) (cs := (cL1 i h e)) hs rfl rfl ?_
 clear hs; intro A w hs
 refine asB rfl <| oN <| sQR <| cR <| oF (b := A) (o := 0) fl46_0 rfl <| ld1 (k := 0) hs rfl rfl ty3 rfl ?_
 obtain ⟨K, L, hm⟩ := bS hm
 refine oC (fi := []) (vs := (cL1 i 1 16)) (ca := []) rfl ⟨rfl, rfl, rfl, trivial⟩ en59 (f59_ok _ _ _ L hs) ?_
 clear hs; rintro _ w ⟨O, E, hs, rfl⟩
 refine mB rfl ?_
 obtain ⟨H, j, hm⟩ := bS hm
 refine oJN 4 (fun f ds w => ∃ (G : Im), ds = [] ∧ Im.le O G ∧ Sat G (blk A 46 (cL1 i h e) :: F) w ∧ f 10 = .bool H ∧ f 1 = pQ A 0 ∧ f 2 = .bool false) ?_ ?_
 · by_cases c : K = true
   · rw [if_pos c] at j
     refine oG (yO rfl rfl c) <| oF (b := A) (o := 0) fl46_1 rfl <| oG (yO rfl rfl c) <| ld1 (k := 0) hs rfl rfl ty3 rfl <| oG (yO rfl rfl c) ?_
     obtain ⟨t, D, j⟩ := bS j
     refine oC (fi := []) (vs := (cL1 h 2 16)) (ca := []) rfl ⟨rfl, rfl, rfl, trivial⟩ en59 (f59_ok _ _ _ D hs) ?_
     clear hs; rintro _ w ⟨N, y, hs, rfl⟩
     refine oV (xPt (v := .bool t) ((rfl : ev _ _ _ = _).trans (congrArg Value.bool c)) rfl) rfl <| oN ?_
     obtain rfl := oJ j
     exact ⟨N, rfl, y, hs, rfl, rfl, rfl⟩
   rw [if_neg c] at j
   refine oO (b := false) (yO rfl rfl (bF c)) rfl <| oO (b := false) (yO rfl rfl (bF c)) rfl <| oO (b := false) (yO rfl rfl (bF c)) rfl <| oV (xPf (v := .bool false) ((rfl : ev _ _ _ = _).trans (congrArg Value.bool (bF c))) rfl) rfl <| oN ?_
   obtain rfl := oJ j
   exact ⟨O, rfl, iR, hs, rfl, rfl, rfl⟩
 clear j hs
 rintro f ds w ⟨G, rfl, z, hs, htbb8, m, l⟩
 refine mB htbb8 ?_
 obtain ⟨p, d, hm⟩ := bS hm
 refine oJN 4 (fun f ds w => ∃ (q : Im), ds = [] ∧ Im.le G q ∧ Sat q (blk A 46 (cL1 i h e) :: F) w ∧ f 15 = .bool p ∧ f 2 = .bool false) ?_ ?_
 · by_cases a : H = true
   · rw [if_pos a] at d
     refine oG (yO rfl rfl a) <| oF (b := A) (o := 0) fl46_2 m <| oG (yO rfl rfl a) <| ld1 (k := 0) hs rfl rfl ty3 rfl <| oG (yO rfl rfl a) ?_
     obtain ⟨s, C, d⟩ := bS d
     refine oC (fi := []) (vs := (cL1 e 1 8192)) (ca := []) rfl ⟨rfl, rfl, rfl, trivial⟩ en59 (f59_ok _ _ _ C hs) ?_
     clear hs; rintro _ w ⟨M, u, hs, rfl⟩
     refine oV (xPt (v := .bool s) ((rfl : ev _ _ _ = _).trans (congrArg Value.bool a)) rfl) rfl <| oN ?_
     obtain rfl := oJ d
     exact ⟨M, rfl, u, hs, rfl, l⟩
   rw [if_neg a] at d
   refine oO (b := false) (yO rfl rfl (bF a)) rfl <| oO (b := false) (yO rfl rfl (bF a)) rfl <| oO (b := false) (yO rfl rfl (bF a)) rfl <| oV (xPf (v := .bool false) ((rfl : ev _ _ _ = _).trans (congrArg Value.bool (bF a))) rfl) rfl <| oN ?_
   obtain rfl := oJ d
   exact ⟨G, rfl, iR, hs, rfl, l⟩
 clear d hs
 rintro f ds w ⟨q, rfl, x, hs, htbb17, B⟩
 refine asB htbb17 <| oN <| sK <| cw_ret <| rK (rs := [.tmp 2]) (vs := [.bool p]) (.inr rfl) rfl ⟨rfl, trivial⟩ ?_
 obtain rfl := oJ hm
 replace hs := hs.erase 0
 exact ⟨q, ((E.trans z).trans x), hs, rfl⟩
def f63_m (d : Int) (c : Int) (h : Int) (a : List (T2x)) (i : Int) : Option Int :=
  (if i ≠ 0 then some (w64 (Int.tdiv (w64 ((w64 ((w64 (d * c)) + i)) - 1)) i)) else none)
theorem f63_ok (d : Int) (c : Int) (h : Int) (a : List (T2x)) (i : Int) {r : Int} (hm : f63_m d c h a i = some r) {f : Option Addr} {e : Nat} {I : Im} {F : List HP} {w : World} (hs : Sat I (F) w) (j : SN42 I f a.length e a) :
    CV P 63 [.agg (cL8 d c h f a.length e).toArray, iN i] w fun v w' => ∃ (J : Im), Im.le I J ∧ Sat J (F) w' ∧ v = iN r := by
 unfold f63_m at hm
 refine cv_of (n := 15) Proofs.Tryz.func63 rfl rfl (nLe rfl) <| cQ <| cR <| oB (v := .agg (cL8 d c h f a.length e).toArray) (cs := (cL8 d c h f a.length e)) hs rfl rfl ?_
 clear hs; intro m w hs
 refine asI rfl <| oN <| sQR <| cR <| oF (b := m) (o := 0) fl33_0 rfl <| ld1 (k := 0) hs rfl rfl ty3 rfl <| oF (b := m) (o := 0) fl33_1 rfl <| ld1 (k := 0) hs rfl rfl ty3 rfl <| oV (x_mul rfl rfl) rfl <| mI rfl <| oV (x_add rfl rfl) rfl ?_
 refine oV (x_sub rfl rfl) rfl <| mI rfl ?_
 have l := (iS hm).1
 replace hm := (iS hm).2
 refine oV (x_quo rfl rfl l) rfl <| asI rfl <| oN <| sK <| cw_ret <| rK (rs := [.tmp 4]) (vs := [iN (w64 (Int.tdiv (w64 ((w64 ((w64 (d * c)) + i)) - 1)) i))]) (.inr rfl) rfl ⟨rfl, trivial⟩ ?_
 obtain rfl := oJ hm
 replace hs := hs.erase 0
 exact ⟨I, iR, hs, rfl⟩
def f60_m (u : Int) (a : Int) (c : Int) (D : Int) (C : Int) (B : Int) (A : Int) (z : Int) (y : Int) (x : Int) (t : Int) (e : List Int) (s : Int) (q : Int) (p : Int) (d : List Bool) : Option (List Int) :=
  ((if u = 2 then some (decide (¬ (a = c))) else some false).bind fun X => (if X = true then some [a, c] else some [a]))
theorem f60_ok (u : Int) (a : Int) (c : Int) (D : Int) (C : Int) (B : Int) (A : Int) (z : Int) (y : Int) (x : Int) (t : Int) (e : List Int) (s : Int) (q : Int) (p : Int) (d : List Bool) {r : List Int} (hm : f60_m u a c D C B A z y x t e s q p d = some r) {m : Option Addr} {j : Nat} {l : Option Addr} {i : Nat} {I : Im} {F : List HP} {w : World} (hs : Sat I (F) w) (V : Rs I 1 m e.length j (e.flatMap e64)) (U : Rs I 1 l d.length i (d.flatMap eB)) :
    CV P 60 [.agg (cL9 u a c D C B A z y x t m e.length j s q p l d.length i).toArray] w fun v w' => ∃ (J : Im) (a0 : Option Addr) (Z : Nat), Im.le I J ∧ Sat J (F) w' ∧ v = .slice a0 r.length Z ∧ Rs J 1 a0 r.length Z (r.flatMap e64) := by
 unfold f60_m at hm
 refine cv_of (n := 21) Proofs.Tryz.func60 rfl rfl (nLe rfl) <| cQ <| cR <| oB (v := .agg (cL9 u a c D C B A z y x t m e.length j s q p l d.length i).toArray) (cs := (cL9 u a c D C B A z y x t m e.length j s q p l d.length i)) hs rfl rfl ?_
 clear hs; intro N w hs
 refine asS rfl <| oN <| sQR <| cQ <| cR <| oF (b := N) (o := 0) fl42_0 rfl <| ld1 (k := 0) hs rfl rfl ty5 rfl <| oV (x_eql rfl rfl) rfl <| mB rfl ?_
 obtain ⟨X, G, hm⟩ := bS hm
 refine oJN 6 (fun f ds w => ∃ (Y : Im), ds = [] ∧ Im.le I Y ∧ Sat Y (blk N 42 (cL9 u a c D C B A z y x t m e.length j s q p l d.length i) :: F) w ∧ f 12 = .bool X ∧ f 1 = pQ N 0 ∧ f 2 = .slice none 0 0) ?_ ?_
 · by_cases h : u = 2
   · rw [if_pos h] at G
     refine oG (yO rfl rfl (dT h)) <| oF (b := N) (o := 0) fl42_1 rfl <| oG (yO rfl rfl (dT h)) <| ld1 (k := 0) hs rfl rfl ty3 rfl <| oG (yO rfl rfl (dT h)) <| oF (b := N) (o := 0) fl42_2 rfl <| oG (yO rfl rfl (dT h)) <| ld1 (k := 0) hs rfl rfl ty3 rfl <| oG (yO rfl rfl (dT h)) <| oV (x_neqD rfl rfl) rfl <| oV (xPt (v := .bool (decide (¬ (a = c)))) ((rfl : ev _ _ _ = _).trans (congrArg Value.bool (dT h))) rfl) rfl <| oN ?_
     obtain rfl := oJ G
     exact ⟨I, rfl, iR, hs, rfl, rfl, rfl⟩
   rw [if_neg h] at G
   refine oO (b := false) (yO rfl rfl (dF h)) rfl <| oO (b := false) (yO rfl rfl (dF h)) rfl <| oO (b := false) (yO rfl rfl (dF h)) rfl <| oO (b := false) (yO rfl rfl (dF h)) rfl <| oO (b := false) (yO rfl rfl (dF h)) rfl <| oV (xPf (v := .bool false) ((rfl : ev _ _ _ = _).trans (congrArg Value.bool (dF h))) rfl) rfl <| oN ?_
   obtain rfl := oJ G
   exact ⟨I, rfl, iR, hs, rfl, rfl, rfl⟩
 clear G hs
 rintro f ds w ⟨Y, rfl, M, hs, htbb3, E, W⟩
 refine oN <| sK ?_
 by_cases L : X = true
 · rw [if_pos L] at hm
   refine cIt htbb3 L <| cQ <| cR <| oF (b := N) (o := 0) fl42_1 E <| ld1 (k := 0) hs rfl rfl ty3 rfl <| oF (b := N) (o := 0) fl42_2 E <| ld1 (k := 0) hs rfl rfl ty3 rfl <| ow_buildSlice (vp := [(0, iN a), (1, iN c)]) (cs := [iN a, iN c]) hs sl24 ty3 rfl ⟨rfl, rfl, rfl, rfl, trivial⟩ (by decide) rfl (by decide) ?_
   clear hs; intro R J8 w S hs K
   replace K : Rs J8 1 R [a, c].length 2 ([a, c].flatMap e64) := K
   refine asS rfl <| oN <| sK <| cw_ret <| seqK_r <| rK (rs := [.tmp 2]) (vs := [.slice R ([a, c].length) 2]) (.inr rfl) rfl ⟨rfl, trivial⟩ ?_
   obtain rfl := oJ hm
   replace hs := hs.erase 0
   exact ⟨J8, R, 2, (M.trans S), hs, rfl, K⟩
 rw [if_neg L] at hm
 refine cIf htbb3 (bF L) <| cw_skip <| sQR <| cR <| oF (b := N) (o := 0) fl42_1 E <| ld1 (k := 0) hs rfl rfl ty3 rfl <| ow_buildSlice (vp := [(0, iN a)]) (cs := [iN a]) hs sl24 ty3 rfl ⟨rfl, rfl, trivial⟩ (by decide) rfl (by decide) ?_
 clear hs; intro Q T w O hs H
 replace H : Rs T 1 Q [a].length 1 ([a].flatMap e64) := H
 refine asS rfl <| oN <| sK <| cw_ret <| rK (rs := [.tmp 2]) (vs := [.slice Q ([a].length) 1]) (.inr rfl) rfl ⟨rfl, trivial⟩ ?_
 obtain rfl := oJ hm
 replace hs := hs.erase 0
 exact ⟨T, Q, 1, (M.trans O), hs, rfl, H⟩
def f61_m (ap : Int) (s : Int) (ah : Int) (ax : Int) (aw : Int) (av : Int) (au : Int) (ar : Int) (aC : Int) (aT : Int) (aB : Int) (aq : List Int) (aA : Int) (ag : Int) (af : Int) (T : List Bool) (x1 : List (Int × Int × List Int)) : Option (Int × Int × List Int × Int) :=
  (if ap = 1 then (if 0 ≤ s ∧ s < (x1.length : Int) then ((f49_m ((at' x1 s).1) ((at' x1 s).2.1) ((at' x1 s).2.2) ax aw av au ar).bind fun X => some (X.1, X.2.1, X.2.2.1, X.2.2.2)) else none) else (if ap = 2 then (if 0 ≤ s ∧ s < (x1.length : Int) then (if 0 ≤ ah ∧ ah < (x1.length : Int) then ((f104_m ((at' x1 s).1) ((at' x1 s).2.1) ((at' x1 s).2.2) ((at' x1 ah).1) ((at' x1 ah).2.1) ((at' x1 ah).2.2) aC).bind fun W => some (W.1, W.2.1, W.2.2.1, W.2.2.2)) else none) else none) else (if ap = 3 then none else (if ap = 4 then (if 0 ≤ s ∧ s < (x1.length : Int) then ((f48_m ((at' x1 s).1) ((at' x1 s).2.1) ((at' x1 s).2.2) ag af T).bind fun V => some (V.1, V.2.1, V.2.2.1, V.2.2.2)) else none) else (if ap = 5 then (if 0 ≤ s ∧ s < (x1.length : Int) then ((f47_m ((at' x1 s).1) ((at' x1 s).2.1) ((at' x1 s).2.2) ag af T).bind fun U => some (U.1, U.2.1, U.2.2.1, U.2.2.2)) else none) else some (0, 0, ([] : List Int), 30))))))
theorem f61_ok (ap : Int) (s : Int) (ah : Int) (ax : Int) (aw : Int) (av : Int) (au : Int) (ar : Int) (aC : Int) (aT : Int) (aB : Int) (aq : List Int) (aA : Int) (ag : Int) (af : Int) (T : List Bool) (x1 : List (Int × Int × List Int)) {r : Int × Int × List Int × Int} (hm : f61_m ap s ah ax aw av au ar aC aT aB aq aA ag af T x1 = some r) {az : Option Addr} {ay : Nat} {Z : Option Addr} {Y : Nat} {aV : Option Addr} {a5 : Nat} {I : Im} {F : List HP} {w : World} (hs : Sat I (F) w) (bv : Rs I 1 az aq.length ay (aq.flatMap e64)) (aE : Rs I 1 Z T.length Y (T.flatMap eB)) (an : SN26 I aV x1.length a5 x1) :
    CV P 61 [.agg (cL9 ap s ah ax aw av au ar aC aT aB az aq.length ay aA ag af Z T.length Y).toArray, .slice aV x1.length a5] w fun v w' => ∃ (J : Im) (a2 : Option Addr) (c2 : Nat), Im.le I J ∧ Sat J (F) w' ∧ v = .tuple #[.agg (cL0 r.1 r.2.1 a2 r.2.2.1.length c2).toArray, iN r.2.2.2] ∧ Rs J 1 a2 r.2.2.1.length c2 (r.2.2.1.flatMap e64) := by
 unfold f61_m at hm
 refine cv_of (n := 76) Proofs.Tryz.func61 rfl rfl (nLe rfl) <| cQ <| cR <| oB (v := .agg (cL9 ap s ah ax aw av au ar aC aT aB az aq.length ay aA ag af Z T.length Y).toArray) (cs := (cL9 ap s ah ax aw av au ar aC aT aB az aq.length ay aA ag af Z T.length Y)) hs rfl rfl ?_
 clear hs; intro b1 w hs
 refine ow_alloc hs ty26 rfl ?_
 clear hs; intro b3 w hs
 refine asI rfl <| oN <| sQR <| cQ <| cR <| oF (b := b1) (o := 0) fl42_0 rfl <| ld1 (k := 1) hs rfl rfl ty5 rfl <| oN <| sK <| cw_block <| cQ ?_
 refine cR <| oV (x_eql rfl rfl) rfl <| asB rfl <| oN <| sK ?_
 by_cases bg : ap = 1
 · rw [if_pos bg] at hm
   refine cIt rfl (dT bg) <| cQ ?_
   have be := (iS hm).1
   replace hm := (iS hm).2
   obtain ⟨X, bs, hm⟩ := bS hm
   replace hs := hs.pushEmp
   refine cD mixed rfl (fun f0 L f w => ∃ (a8 : Option Addr) (c9 : Nat) (D : Option Addr) (A : Nat) (O : Im), Im.le I O ∧ f = frL [(10, 0, .slice aV x1.length a5), (11, 1, pQ b1 1), (12, 2, iN s), (13, 3, .pointer (some (ea aV (s.toNat * 3)))), (14, 4, .agg (rL2 (at' x1 s) a8 c9).toArray), (15, 5, pQ b1 3), (16, 6, .agg (cL3 ax aw av au ar).toArray), (17, 7, .tuple #[.agg (cL0 X.1 X.2.1 D X.2.2.1.length A).toArray, iN X.2.2.2]), (18, 8, .agg (cL0 X.1 X.2.1 D X.2.2.1.length A).toArray), (19, 9, iN X.2.2.2), (5, 11, iN X.2.2.2)] L f0 ∧ Sat O (rL [(7, osl 3 1 D X.2.2.1.length A (X.2.2.1.flatMap e64))] emp L :: rL [(10, blk b3 26 (cL0 X.1 X.2.1 D X.2.2.1.length A))] (blk b3 26 (cL0 0 0 none 0 0)) L :: blk b1 42 (cL9 ap s ah ax aw av au ar aC aT aB az aq.length ay aA ag af Z T.length Y) :: F) w ∧ (L 4 = true → Rs O 1 a8 ((at' x1 s).2.2).length c9 (((at' x1 s).2.2).flatMap e64)) ∧ (L 10 = true → L 7 = true) ∧ (L 8 = true → L 7 = true) ∧ (L 7 = true → L 4 = true)) ⟨none, 0, none, 0, I, iR, (frL_ff _).symm, hs.drew, (fun h => by cases h), (fun h => by cases h), (fun h => by cases h), (fun h => by cases h)⟩ ⟨?_, ?_, ?_, ?_, ?_, ?_, ?_, ?_, ?_, ?_, ?_, ?_, trivial⟩ ?_
   all_goals clear hs
   · rintro L f w _ hL ⟨a8, c9, D, A, O, d, rfl, hs, S, c, j, e⟩
     refine mS rfl ?_
     exact oN ⟨rfl, rfl, a8, c9, D, A, O, d, fS rfl rfl, hs, (fun h => S h), c, j, e⟩
   · rintro L f w _ hL ⟨a8, c9, D, A, O, d, rfl, hs, S, c, j, e⟩
     refine oF (b := b1) (o := 0) fl42_1 rfl ?_
     exact oN ⟨rfl, rfl, a8, c9, D, A, O, d, fS rfl rfl, hs, (fun h => S h), c, j, e⟩
   · rintro L f w ⟨aP, _⟩ hL ⟨a8, c9, D, A, O, d, rfl, hs, S, c, j, e⟩
     refine ld1 (k := 2) hs rfl (fG rfl aP) ty3 rfl ?_
     exact oN ⟨rfl, rfl, a8, c9, D, A, O, d, fS rfl rfl, hs, (fun h => S h), c, j, e⟩
   · rintro L f w ⟨aQ, aO, _⟩ hL ⟨a8, c9, D, A, O, d, rfl, hs, S, c, j, e⟩
     replace an := an.mono d
     refine oI (i := s) sl86 ty26 (fG rfl aQ) (fG rfl aO) be.1 be.2 (SN26.some an (by have := be; omega)) ?_
     exact oN ⟨rfl, rfl, a8, c9, D, A, O, d, fS rfl rfl, hs, (fun h => S h), c, j, e⟩
   · rintro L f w ⟨aN, _⟩ hL ⟨a8, c9, D, A, O, d, rfl, hs, S, c, j, e⟩
     replace an := an.mono d
     obtain ⟨csu7, hru7, hnu7⟩ := (id an)
     obtain ⟨vsu7, hvu7, a8, c9, rfl, aK⟩ := NL.at rl26.len hnu7 be.1 be.2
     refine oLR (p := s.toNat * 3) (vs := (rL2 (at' x1 s) a8 c9)) (v := .agg (rL2 (at' x1 s) a8 c9).toArray) hs hru7 (fG rfl aN) ty26 ((cells_part hvu7 0 3 (by decide)).trans rfl) rfl rfl ?_
     exact oN ⟨rfl, rfl, a8, c9, D, A, O, d, (Eq.trans (fSG (i := 4) rfl rfl) (rfl)), hs, (fun _ => aK), c, j, (fun _ => rfl)⟩
   · rintro L f w _ hL ⟨a8, c9, D, A, O, d, rfl, hs, S, c, j, e⟩
     refine oF (b := b1) (o := 0) fl42_3 rfl ?_
     exact oN ⟨rfl, rfl, a8, c9, D, A, O, d, fS rfl rfl, hs, (fun h => S h), c, j, e⟩
   · rintro L f w ⟨aM, _⟩ hL ⟨a8, c9, D, A, O, d, rfl, hs, S, c, j, e⟩
     refine oL (k := 2) (vs := (cL3 ax aw av au ar)) (v := .agg (cL3 ax aw av au ar).toArray) hs rfl (fG rfl aM) ty35 rfl rfl rfl ?_
     exact oN ⟨rfl, rfl, a8, c9, D, A, O, d, fS rfl rfl, hs, (fun h => S h), c, j, e⟩
   · rintro L f w ⟨ai, aL, _⟩ hL ⟨a8, c9, D, A, O, d, rfl, hs, S, c, j, e⟩
     have aK := S ai
     replace hs := hs.eqv (k := 0) rfl ((rL_f hL (rL_n)))
     replace hs := hs.eqv (k := 1) rfl ((rL_f (show L 10 = false from pF c hL) (rfl)))
     refine oC (fi := []) (vs := [.agg (rL2 (at' x1 s) a8 c9).toArray, .agg (cL3 ax aw av au ar).toArray]) (ca := []) rfl ⟨(fG rfl ai), (fG rfl aL), trivial⟩ en49 (f49_ok _ _ _ _ _ _ _ _ bs hs aK) ?_
     clear hs; rintro _ w ⟨bC, D, A, bd, hs, rfl⟩
     replace hs := hs.setE (k := 0) rfl
     replace hs := hs.eqv (k := 1) rfl (Eq.symm (a := rL [(10, blk b3 26 (cL0 X.1 X.2.1 D X.2.2.1.length A))] (blk b3 26 (cL0 0 0 none 0 0)) (setL L 7)) (((rL_f (L := setL L 7) (show L 10 = false from pF c hL) (rfl)))))
     exact oN ⟨rfl, rfl, a8, c9, D, A, bC, (d.trans bd), (Eq.trans (fSG (i := 7) rfl rfl) (Eq.trans (fD (u := undef) (i := 8) (v := .agg (cL0 X.1 X.2.1 D X.2.2.1.length A).toArray) (L := setL L 7) (show L 8 = false from pF j hL)) (rfl))), hs, (fun h => (S h).mono bd), (fun _ => rfl), (fun _ => rfl), (fun _ => ai)⟩
   · rintro L f w ⟨aa, _⟩ hL ⟨a8, c9, D, A, O, d, rfl, hs, S, c, j, e⟩
     have aK := S (e aa)
     refine oV (xE (v := .agg (cL0 X.1 X.2.1 D X.2.2.1.length A).toArray) (fG rfl aa) rfl) rfl ?_
     exact oN ⟨rfl, rfl, a8, c9, D, A, O, d, fS rfl rfl, hs, (fun h => S h), c, (fun _ => aa), e⟩
   · rintro L f w ⟨aa, _⟩ hL ⟨a8, c9, D, A, O, d, rfl, hs, S, c, j, e⟩
     have aK := S (e aa)
     refine oV (xE (v := iN X.2.2.2) (fG rfl aa) rfl) rfl ?_
     exact oN ⟨rfl, rfl, a8, c9, D, A, O, d, fS rfl rfl, hs, (fun h => S h), c, j, e⟩
   · rintro L f w ⟨aU, aa, aQ, aP, aO, aN, ai, aM, aL, _, _, aF, _⟩ hL ⟨a8, c9, D, A, O, d, rfl, hs, S, c, j, e⟩
     have aK := S ai
     replace hs := hs.eqv (k := 1) rfl ((rL_f hL (rL_n)))
     refine oS (k := 1) (vs := (cL0 X.1 X.2.1 D X.2.2.1.length A)) (cs' := (cL0 X.1 X.2.1 D X.2.2.1.length A)) hs rfl rfl (fG rfl aU) ty26 rfl rfl (nLe rfl) rfl rfl ?_
     clear hs; intro w hs
     exact oN ⟨rfl, rfl, a8, c9, D, A, O, d, frL_no rfl, hs, (fun h => S h), (fun _ => aa), j, e⟩
   · rintro L f w ⟨aF, aX, aQ, aP, aO, aN, ai, aM, aL, aa, aU, _, _, _⟩ hL ⟨a8, c9, D, A, O, d, rfl, hs, S, c, j, e⟩
     have aK := S ai
     refine asI (fG rfl aF) ?_
     exact oN ⟨rfl, rfl, a8, c9, D, A, O, d, fS rfl rfl, hs, (fun h => S h), c, j, e⟩
   rintro L f w hall ⟨a8, c9, D, A, bK, bo, rfl, hs, aK, _, _, _⟩
   rw [frL_tt _ rfl hall]
   replace hs := hs.eqv (k := 0) rfl (rL_t (hall 7 (nLe rfl)))
   replace hs := hs.eqv (k := 1) rfl (rL_t (hall 10 (nLe rfl)))
   replace aK := aK (hall 4 (nLe rfl))
   refine sK <| cw_ret <| blockK_r <| seqK_r <| rK (rs := [.cell 4 26, .tmp 5]) (vs := [.agg (cL0 X.1 X.2.1 D X.2.2.1.length A).toArray, iN X.2.2.2]) (.inr rfl) rfl ⟨⟨_, true, _, (cL0 X.1 X.2.1 D X.2.2.1.length A), rfl, ty26, CA_blk (off := 0) (m := 3) (hs.blk (k := 1) rfl), rfl, rfl⟩, rfl, trivial⟩ ?_
   obtain rfl := oJ hm
   obtain ⟨bB, bn, bu, hs⟩ := hs.freezeO
   replace hs := hs.erase 0
   replace hs := hs.erase 0
   exact ⟨bB, D, A, (bo.trans bn), hs, rfl, bu⟩
 rw [if_neg bg] at hm
 refine cIf rfl (dF bg) <| cQ <| cR <| oV (x_eql rfl rfl) rfl <| asB rfl <| oN <| sK ?_
 by_cases ba : ap = 2
 · rw [if_pos ba] at hm
   refine cIt rfl (dT ba) <| cQ ?_
   have a1 := (iS hm).1
   replace hm := (iS hm).2
   have a0 := (iS hm).1
   replace hm := (iS hm).2
   obtain ⟨W, br, hm⟩ := bS hm
   replace hs := hs.pushEmp
   refine cD mixed rfl (fun f0 L f w => ∃ (ae : Option Addr) (ac : Nat) (ad : Option Addr) (ab : Nat) (q : Option Addr) (l : Nat) (O : Im), Im.le I O ∧ f = frL [(22, 0, .slice aV x1.length a5), (23, 1, pQ b1 1), (24, 2, iN s), (25, 3, .pointer (some (ea aV (s.toNat * 3)))), (26, 4, .agg (rL2 (at' x1 s) ae ac).toArray), (27, 5, .slice aV x1.length a5), (28, 6, pQ b1 2), (29, 7, iN ah), (30, 8, .pointer (some (ea aV (ah.toNat * 3)))), (31, 9, .agg (rL2 (at' x1 ah) ad ab).toArray), (32, 10, pQ b1 8), (33, 11, .int .u8 aC), (34, 12, .tuple #[.agg (cL0 W.1 W.2.1 q W.2.2.1.length l).toArray, iN W.2.2.2]), (35, 13, .agg (cL0 W.1 W.2.1 q W.2.2.1.length l).toArray), (36, 14, iN W.2.2.2), (5, 16, iN W.2.2.2)] L f0 ∧ Sat O (rL [(12, osl 3 1 q W.2.2.1.length l (W.2.2.1.flatMap e64))] emp L :: rL [(15, blk b3 26 (cL0 W.1 W.2.1 q W.2.2.1.length l))] (blk b3 26 (cL0 0 0 none 0 0)) L :: blk b1 42 (cL9 ap s ah ax aw av au ar aC aT aB az aq.length ay aA ag af Z T.length Y) :: F) w ∧ (L 4 = true → Rs O 1 ae ((at' x1 s).2.2).length ac (((at' x1 s).2.2).flatMap e64)) ∧ (L 9 = true → Rs O 1 ad ((at' x1 ah).2.2).length ab (((at' x1 ah).2.2).flatMap e64)) ∧ (L 15 = true → L 12 = true) ∧ (L 13 = true → L 12 = true) ∧ (L 12 = true → L 4 = true) ∧ (L 12 = true → L 9 = true)) ⟨none, 0, none, 0, none, 0, I, iR, (frL_ff _).symm, hs.drew, (fun h => by cases h), (fun h => by cases h), (fun h => by cases h), (fun h => by cases h), (fun h => by cases h), (fun h => by cases h)⟩ ⟨?_, ?_, ?_, ?_, ?_, ?_, ?_, ?_, ?_, ?_, ?_, ?_, ?_, ?_, ?_, ?_, ?_, trivial⟩ ?_
   all_goals clear hs
   · rintro L f w _ hL ⟨ae, ac, ad, ab, q, l, O, d, rfl, hs, N, M, t, x, K, H⟩
     refine mS rfl ?_
     exact oN ⟨rfl, rfl, ae, ac, ad, ab, q, l, O, d, fS rfl rfl, hs, (fun h => N h), (fun h => M h), t, x, K, H⟩
   · rintro L f w _ hL ⟨ae, ac, ad, ab, q, l, O, d, rfl, hs, N, M, t, x, K, H⟩
     refine oF (b := b1) (o := 0) fl42_1 rfl ?_
     exact oN ⟨rfl, rfl, ae, ac, ad, ab, q, l, O, d, fS rfl rfl, hs, (fun h => N h), (fun h => M h), t, x, K, H⟩
   · rintro L f w ⟨aP, _⟩ hL ⟨ae, ac, ad, ab, q, l, O, d, rfl, hs, N, M, t, x, K, H⟩
     refine ld1 (k := 2) hs rfl (fG rfl aP) ty3 rfl ?_
     exact oN ⟨rfl, rfl, ae, ac, ad, ab, q, l, O, d, fS rfl rfl, hs, (fun h => N h), (fun h => M h), t, x, K, H⟩
   · rintro L f w ⟨aQ, aO, _⟩ hL ⟨ae, ac, ad, ab, q, l, O, d, rfl, hs, N, M, t, x, K, H⟩
     replace an := an.mono d
     refine oI (i := s) sl86 ty26 (fG rfl aQ) (fG rfl aO) a1.1 a1.2 (SN26.some an (by have := a1; omega)) ?_
     exact oN ⟨rfl, rfl, ae, ac, ad, ab, q, l, O, d, fS rfl rfl, hs, (fun h => N h), (fun h => M h), t, x, K, H⟩
   · rintro L f w ⟨aN, _⟩ hL ⟨ae, ac, ad, ab, q, l, O, d, rfl, hs, N, M, t, x, K, H⟩
     replace an := an.mono d
     obtain ⟨csu23, hru23, hnu23⟩ := (id an)
     obtain ⟨vsu23, hvu23, ae, ac, rfl, aJ⟩ := NL.at rl26.len hnu23 a1.1 a1.2
     refine oLR (p := s.toNat * 3) (vs := (rL2 (at' x1 s) ae ac)) (v := .agg (rL2 (at' x1 s) ae ac).toArray) hs hru23 (fG rfl aN) ty26 ((cells_part hvu23 0 3 (by decide)).trans rfl) rfl rfl ?_
     exact oN ⟨rfl, rfl, ae, ac, ad, ab, q, l, O, d, (Eq.trans (fSG (i := 4) rfl rfl) (rfl)), hs, (fun _ => aJ), (fun h => M h), t, x, (fun _ => rfl), H⟩
   · rintro L f w _ hL ⟨ae, ac, ad, ab, q, l, O, d, rfl, hs, N, M, t, x, K, H⟩
     refine mS rfl ?_
     exact oN ⟨rfl, rfl, ae, ac, ad, ab, q, l, O, d, fS rfl rfl, hs, (fun h => N h), (fun h => M h), t, x, K, H⟩
   · rintro L f w _ hL ⟨ae, ac, ad, ab, q, l, O, d, rfl, hs, N, M, t, x, K, H⟩
     refine oF (b := b1) (o := 0) fl42_2 rfl ?_
     exact oN ⟨rfl, rfl, ae, ac, ad, ab, q, l, O, d, fS rfl rfl, hs, (fun h => N h), (fun h => M h), t, x, K, H⟩
   · rintro L f w ⟨aL, _⟩ hL ⟨ae, ac, ad, ab, q, l, O, d, rfl, hs, N, M, t, x, K, H⟩
     refine ld1 (k := 2) hs rfl (fG rfl aL) ty3 rfl ?_
     exact oN ⟨rfl, rfl, ae, ac, ad, ab, q, l, O, d, fS rfl rfl, hs, (fun h => N h), (fun h => M h), t, x, K, H⟩
   · rintro L f w ⟨aM, aa, _⟩ hL ⟨ae, ac, ad, ab, q, l, O, d, rfl, hs, N, M, t, x, K, H⟩
     replace an := an.mono d
     refine oI (i := ah) sl86 ty26 (fG rfl aM) (fG rfl aa) a0.1 a0.2 (SN26.some an (by have := a0; omega)) ?_
     exact oN ⟨rfl, rfl, ae, ac, ad, ab, q, l, O, d, fS rfl rfl, hs, (fun h => N h), (fun h => M h), t, x, K, H⟩
   · rintro L f w ⟨aU, _⟩ hL ⟨ae, ac, ad, ab, q, l, O, d, rfl, hs, N, M, t, x, K, H⟩
     replace an := an.mono d
     obtain ⟨csu28, hru28, hnu28⟩ := (id an)
     obtain ⟨vsu28, hvu28, ad, ab, rfl, aI⟩ := NL.at rl26.len hnu28 a0.1 a0.2
     refine oLR (p := ah.toNat * 3) (vs := (rL2 (at' x1 ah) ad ab)) (v := .agg (rL2 (at' x1 ah) ad ab).toArray) hs hru28 (fG rfl aU) ty26 ((cells_part hvu28 0 3 (by decide)).trans rfl) rfl rfl ?_
     exact oN ⟨rfl, rfl, ae, ac, ad, ab, q, l, O, d, (Eq.trans (fSG (i := 9) rfl rfl) (rfl)), hs, (fun h => N h), (fun _ => aI), t, x, K, (fun _ => rfl)⟩
   · rintro L f w _ hL ⟨ae, ac, ad, ab, q, l, O, d, rfl, hs, N, M, t, x, K, H⟩
     refine oF (b := b1) (o := 0) fl42_4 rfl ?_
     exact oN ⟨rfl, rfl, ae, ac, ad, ab, q, l, O, d, fS rfl rfl, hs, (fun h => N h), (fun h => M h), t, x, K, H⟩
   · rintro L f w ⟨aX, _⟩ hL ⟨ae, ac, ad, ab, q, l, O, d, rfl, hs, N, M, t, x, K, H⟩
     refine ld1 (k := 2) hs rfl (fG rfl aX) ty5 rfl ?_
     exact oN ⟨rfl, rfl, ae, ac, ad, ab, q, l, O, d, fS rfl rfl, hs, (fun h => N h), (fun h => M h), t, x, K, H⟩
   · rintro L f w ⟨ai, aF, bf, _⟩ hL ⟨ae, ac, ad, ab, q, l, O, d, rfl, hs, N, M, t, x, K, H⟩
     have aJ := N ai
     have aI := M aF
     replace hs := hs.eqv (k := 0) rfl ((rL_f hL (rL_n)))
     replace hs := hs.eqv (k := 1) rfl ((rL_f (show L 15 = false from pF t hL) (rfl)))
     refine oC (fi := []) (vs := [.agg (rL2 (at' x1 s) ae ac).toArray, .agg (rL2 (at' x1 ah) ad ab).toArray, .int .u8 aC]) (ca := []) rfl ⟨(fG rfl ai), (fG rfl aF), (fG rfl bf), trivial⟩ en104 (f104_ok _ _ _ _ _ _ _ br hs aJ aI) ?_
     clear hs; rintro _ w ⟨bA, q, l, a4, hs, rfl⟩
     replace hs := hs.setE (k := 0) rfl
     replace hs := hs.eqv (k := 1) rfl (Eq.symm (a := rL [(15, blk b3 26 (cL0 W.1 W.2.1 q W.2.2.1.length l))] (blk b3 26 (cL0 0 0 none 0 0)) (setL L 12)) (((rL_f (L := setL L 12) (show L 15 = false from pF t hL) (rfl)))))
     exact oN ⟨rfl, rfl, ae, ac, ad, ab, q, l, bA, (d.trans a4), (Eq.trans (fSG (i := 12) rfl rfl) (Eq.trans (fD (u := undef) (i := 13) (v := .agg (cL0 W.1 W.2.1 q W.2.2.1.length l).toArray) (L := setL L 12) (show L 13 = false from pF x hL)) (rfl))), hs, (fun h => (N h).mono a4), (fun h => (M h).mono a4), (fun _ => rfl), (fun _ => rfl), (fun _ => ai), (fun _ => aF)⟩
   · rintro L f w ⟨aD, _⟩ hL ⟨ae, ac, ad, ab, q, l, O, d, rfl, hs, N, M, t, x, K, H⟩
     have aJ := N (K aD)
     have aI := M (H aD)
     refine oV (xE (v := .agg (cL0 W.1 W.2.1 q W.2.2.1.length l).toArray) (fG rfl aD) rfl) rfl ?_
     exact oN ⟨rfl, rfl, ae, ac, ad, ab, q, l, O, d, fS rfl rfl, hs, (fun h => N h), (fun h => M h), t, (fun _ => aD), K, H⟩
   · rintro L f w ⟨aD, _⟩ hL ⟨ae, ac, ad, ab, q, l, O, d, rfl, hs, N, M, t, x, K, H⟩
     have aJ := N (K aD)
     have aI := M (H aD)
     refine oV (xE (v := iN W.2.2.2) (fG rfl aD) rfl) rfl ?_
     exact oN ⟨rfl, rfl, ae, ac, ad, ab, q, l, O, d, fS rfl rfl, hs, (fun h => N h), (fun h => M h), t, x, K, H⟩
   · rintro L f w ⟨bi, aD, aQ, aP, aO, aN, ai, aM, aL, aa, aU, aF, aX, bf, _, _, bh, _⟩ hL ⟨ae, ac, ad, ab, q, l, O, d, rfl, hs, N, M, t, x, K, H⟩
     have aJ := N ai
     have aI := M aF
     replace hs := hs.eqv (k := 1) rfl ((rL_f hL (rL_n)))
     refine oS (k := 1) (vs := (cL0 W.1 W.2.1 q W.2.2.1.length l)) (cs' := (cL0 W.1 W.2.1 q W.2.2.1.length l)) hs rfl rfl (fG rfl bi) ty26 rfl rfl (nLe rfl) rfl rfl ?_
     clear hs; intro w hs
     exact oN ⟨rfl, rfl, ae, ac, ad, ab, q, l, O, d, frL_no rfl, hs, (fun h => N h), (fun h => M h), (fun _ => aD), x, K, H⟩
   · rintro L f w ⟨bh, bG, aQ, aP, aO, aN, ai, aM, aL, aa, aU, aF, aX, bf, aD, bi, _, _, _⟩ hL ⟨ae, ac, ad, ab, q, l, O, d, rfl, hs, N, M, t, x, K, H⟩
     have aJ := N ai
     have aI := M aF
     refine asI (fG rfl bh) ?_
     exact oN ⟨rfl, rfl, ae, ac, ad, ab, q, l, O, d, fS rfl rfl, hs, (fun h => N h), (fun h => M h), t, x, K, H⟩
   rintro L f w hall ⟨ae, ac, ad, ab, q, l, bJ, bm, rfl, hs, aJ, aI, _, _, _, _⟩
   rw [frL_tt _ rfl hall]
   replace hs := hs.eqv (k := 0) rfl (rL_t (hall 12 (nLe rfl)))
   replace hs := hs.eqv (k := 1) rfl (rL_t (hall 15 (nLe rfl)))
   replace aJ := aJ (hall 4 (nLe rfl))
   replace aI := aI (hall 9 (nLe rfl))
   refine sK <| cw_ret <| blockK_r <| seqK_r <| rK (rs := [.cell 4 26, .tmp 5]) (vs := [.agg (cL0 W.1 W.2.1 q W.2.2.1.length l).toArray, iN W.2.2.2]) (.inr rfl) rfl ⟨⟨_, true, _, (cL0 W.1 W.2.1 q W.2.2.1.length l), rfl, ty26, CA_blk (off := 0) (m := 3) (hs.blk (k := 1) rfl), rfl, rfl⟩, rfl, trivial⟩ ?_
   obtain rfl := oJ hm
   obtain ⟨bz, bl, bt, hs⟩ := hs.freezeO
   replace hs := hs.erase 0
   replace hs := hs.erase 0
   exact ⟨bz, q, l, (bm.trans bl), hs, rfl, bt⟩
 rw [if_neg ba] at hm
 refine cIf rfl (dF ba) <| cQ <| cR <| oV (x_eql rfl rfl) rfl <| asB rfl <| oN <| sK ?_
 by_cases a9 : ap = 3
 · rw [if_pos a9] at hm
   refine cIt rfl (dT a9) <| cQ ?_
   cases hm
 rw [if_neg a9] at hm
 refine cIf rfl (dF a9) <| cQ <| cR <| oV (x_eql rfl rfl) rfl <| asB rfl <| oN <| sK ?_
 by_cases a7 : ap = 4
 · rw [if_pos a7] at hm
   refine cIt rfl (dT a7) <| cQ ?_
   have aZ := (iS hm).1
   replace hm := (iS hm).2
   obtain ⟨V, bq, hm⟩ := bS hm
   refine cD mixed rfl (fun f0 L f w => ∃ (am : Option Addr) (ak : Nat) (C : Option Addr) (z : Nat) (O : Im), Im.le I O ∧ f = frL [(53, 0, .slice aV x1.length a5), (54, 1, pQ b1 1), (55, 2, iN s), (56, 3, .pointer (some (ea aV (s.toNat * 3)))), (57, 4, .agg (rL2 (at' x1 s) am ak).toArray), (58, 5, pQ b1 13), (59, 6, .agg (cL0 ag af Z T.length Y).toArray), (60, 7, .tuple #[.agg (cL0 V.1 V.2.1 C V.2.2.1.length z).toArray, iN V.2.2.2]), (61, 8, .agg (cL0 V.1 V.2.1 C V.2.2.1.length z).toArray), (62, 9, iN V.2.2.2), (5, 11, iN V.2.2.2)] L f0 ∧ Sat O (rL [(10, blk b3 26 (cL0 V.1 V.2.1 C V.2.2.1.length z))] (blk b3 26 (cL0 0 0 none 0 0)) L :: blk b1 42 (cL9 ap s ah ax aw av au ar aC aT aB az aq.length ay aA ag af Z T.length Y) :: F) w ∧ (L 4 = true → Rs O 1 am ((at' x1 s).2.2).length ak (((at' x1 s).2.2).flatMap e64)) ∧ (L 7 = true → Rs O 1 C V.2.2.1.length z (V.2.2.1.flatMap e64)) ∧ (L 10 = true → L 7 = true) ∧ (L 8 = true → L 7 = true) ∧ (L 7 = true → L 4 = true)) ⟨none, 0, none, 0, I, iR, (frL_ff _).symm, hs.drew, (fun h => by cases h), (fun h => by cases h), (fun h => by cases h), (fun h => by cases h), (fun h => by cases h)⟩ ⟨?_, ?_, ?_, ?_, ?_, ?_, ?_, ?_, ?_, ?_, ?_, ?_, trivial⟩ ?_
   all_goals clear hs
   · rintro L f w _ hL ⟨am, ak, C, z, O, d, rfl, hs, R, G, c, j, e⟩
     refine mS rfl ?_
     exact oN ⟨rfl, rfl, am, ak, C, z, O, d, fS rfl rfl, hs, (fun h => R h), (fun h => G h), c, j, e⟩
   · rintro L f w _ hL ⟨am, ak, C, z, O, d, rfl, hs, R, G, c, j, e⟩
     refine oF (b := b1) (o := 0) fl42_1 rfl ?_
     exact oN ⟨rfl, rfl, am, ak, C, z, O, d, fS rfl rfl, hs, (fun h => R h), (fun h => G h), c, j, e⟩
   · rintro L f w ⟨aP, _⟩ hL ⟨am, ak, C, z, O, d, rfl, hs, R, G, c, j, e⟩
     refine ld1 (k := 1) hs rfl (fG rfl aP) ty3 rfl ?_
     exact oN ⟨rfl, rfl, am, ak, C, z, O, d, fS rfl rfl, hs, (fun h => R h), (fun h => G h), c, j, e⟩
   · rintro L f w ⟨aQ, aO, _⟩ hL ⟨am, ak, C, z, O, d, rfl, hs, R, G, c, j, e⟩
     replace an := an.mono d
     refine oI (i := s) sl86 ty26 (fG rfl aQ) (fG rfl aO) aZ.1 aZ.2 (SN26.some an (by have := aZ; omega)) ?_
     exact oN ⟨rfl, rfl, am, ak, C, z, O, d, fS rfl rfl, hs, (fun h => R h), (fun h => G h), c, j, e⟩
   · rintro L f w ⟨aN, _⟩ hL ⟨am, ak, C, z, O, d, rfl, hs, R, G, c, j, e⟩
     replace an := an.mono d
     obtain ⟨csu45, hru45, hnu45⟩ := (id an)
     obtain ⟨vsu45, hvu45, am, ak, rfl, aH⟩ := NL.at rl26.len hnu45 aZ.1 aZ.2
     refine oLR (p := s.toNat * 3) (vs := (rL2 (at' x1 s) am ak)) (v := .agg (rL2 (at' x1 s) am ak).toArray) hs hru45 (fG rfl aN) ty26 ((cells_part hvu45 0 3 (by decide)).trans rfl) rfl rfl ?_
     exact oN ⟨rfl, rfl, am, ak, C, z, O, d, (Eq.trans (fSG (i := 4) rfl rfl) (rfl)), hs, (fun _ => aH), (fun h => G h), c, j, (fun _ => rfl)⟩
   · rintro L f w _ hL ⟨am, ak, C, z, O, d, rfl, hs, R, G, c, j, e⟩
     refine oF (b := b1) (o := 0) fl42_7 rfl ?_
     exact oN ⟨rfl, rfl, am, ak, C, z, O, d, fS rfl rfl, hs, (fun h => R h), (fun h => G h), c, j, e⟩
   · rintro L f w ⟨aM, _⟩ hL ⟨am, ak, C, z, O, d, rfl, hs, R, G, c, j, e⟩
     refine oL (k := 1) (vs := (cL0 ag af Z T.length Y)) (v := .agg (cL0 ag af Z T.length Y).toArray) hs rfl (fG rfl aM) ty40 rfl rfl rfl ?_
     exact oN ⟨rfl, rfl, am, ak, C, z, O, d, fS rfl rfl, hs, (fun h => R h), (fun h => G h), c, j, e⟩
   · rintro L f w ⟨ai, aL, _⟩ hL ⟨am, ak, C, z, O, d, rfl, hs, R, G, c, j, e⟩
     have aH := R ai
     replace hs := hs.eqv (k := 0) rfl ((rL_f (show L 10 = false from pF c hL) (rfl)))
     replace aE := aE.mono d
     refine oC (fi := []) (vs := [.agg (rL2 (at' x1 s) am ak).toArray, .agg (cL0 ag af Z T.length Y).toArray]) (ca := []) rfl ⟨(fG rfl ai), (fG rfl aL), trivial⟩ en48 (f48_ok _ _ _ _ _ _ bq hs aH aE) ?_
     clear hs; rintro _ w ⟨bx, C, z, bc, hs, rfl, hRz53_2⟩
     replace hs := hs.eqv (k := 0) rfl (Eq.symm (a := rL [(10, blk b3 26 (cL0 V.1 V.2.1 C V.2.2.1.length z))] (blk b3 26 (cL0 0 0 none 0 0)) (setL L 7)) (((rL_f (L := setL L 7) (show L 10 = false from pF c hL) (rfl)))))
     exact oN ⟨rfl, rfl, am, ak, C, z, bx, (d.trans bc), (Eq.trans (fSG (i := 7) rfl rfl) (Eq.trans (fD (u := undef) (i := 8) (v := .agg (cL0 V.1 V.2.1 C V.2.2.1.length z).toArray) (L := setL L 7) (show L 8 = false from pF j hL)) (rfl))), hs, (fun h => (R h).mono bc), (fun _ => hRz53_2), (fun _ => rfl), (fun _ => rfl), (fun _ => ai)⟩
   · rintro L f w ⟨aa, _⟩ hL ⟨am, ak, C, z, O, d, rfl, hs, R, G, c, j, e⟩
     have aH := R (e aa)
     have hRz53_2 := G aa
     refine oV (xE (v := .agg (cL0 V.1 V.2.1 C V.2.2.1.length z).toArray) (fG rfl aa) rfl) rfl ?_
     exact oN ⟨rfl, rfl, am, ak, C, z, O, d, fS rfl rfl, hs, (fun h => R h), (fun h => G h), c, (fun _ => aa), e⟩
   · rintro L f w ⟨aa, _⟩ hL ⟨am, ak, C, z, O, d, rfl, hs, R, G, c, j, e⟩
     have aH := R (e aa)
     have hRz53_2 := G aa
     refine oV (xE (v := iN V.2.2.2) (fG rfl aa) rfl) rfl ?_
     exact oN ⟨rfl, rfl, am, ak, C, z, O, d, fS rfl rfl, hs, (fun h => R h), (fun h => G h), c, j, e⟩
   · rintro L f w ⟨aU, aa, aQ, aP, aO, aN, ai, aM, aL, _, _, aF, _⟩ hL ⟨am, ak, C, z, O, d, rfl, hs, R, G, c, j, e⟩
     have aH := R ai
     have hRz53_2 := G aa
     replace hs := hs.eqv (k := 0) rfl ((rL_f hL (rL_n)))
     refine oS (k := 0) (vs := (cL0 V.1 V.2.1 C V.2.2.1.length z)) (cs' := (cL0 V.1 V.2.1 C V.2.2.1.length z)) hs rfl rfl (fG rfl aU) ty26 rfl rfl (nLe rfl) rfl rfl ?_
     clear hs; intro w hs
     exact oN ⟨rfl, rfl, am, ak, C, z, O, d, frL_no rfl, hs, (fun h => R h), (fun h => G h), (fun _ => aa), j, e⟩
   · rintro L f w ⟨aF, aX, aQ, aP, aO, aN, ai, aM, aL, aa, aU, _, _, _⟩ hL ⟨am, ak, C, z, O, d, rfl, hs, R, G, c, j, e⟩
     have aH := R ai
     have hRz53_2 := G aa
     refine asI (fG rfl aF) ?_
     exact oN ⟨rfl, rfl, am, ak, C, z, O, d, fS rfl rfl, hs, (fun h => R h), (fun h => G h), c, j, e⟩
   rintro L f w hall ⟨am, ak, C, z, bE, bk, rfl, hs, aH, hRz53_2, _, _, _⟩
   rw [frL_tt _ rfl hall]
   replace hs := hs.eqv (k := 0) rfl (rL_t (hall 10 (nLe rfl)))
   replace aH := aH (hall 4 (nLe rfl))
   replace hRz53_2 := hRz53_2 (hall 7 (nLe rfl))
   refine sK <| cw_ret <| blockK_r <| seqK_r <| rK (rs := [.cell 4 26, .tmp 5]) (vs := [.agg (cL0 V.1 V.2.1 C V.2.2.1.length z).toArray, iN V.2.2.2]) (.inr rfl) rfl ⟨⟨_, true, _, (cL0 V.1 V.2.1 C V.2.2.1.length z), rfl, ty26, CA_blk (off := 0) (m := 3) (hs.blk (k := 0) rfl), rfl, rfl⟩, rfl, trivial⟩ ?_
   obtain rfl := oJ hm
   replace hs := hs.erase 0
   replace hs := hs.erase 0
   exact ⟨bE, C, z, bk, hs, rfl, hRz53_2⟩
 rw [if_neg a7] at hm
 refine cIf rfl (dF a7) <| cQ <| cR <| oV (x_eql rfl rfl) rfl <| asB rfl <| oN <| sK ?_
 by_cases a6 : ap = 5
 · rw [if_pos a6] at hm
   refine cIt rfl (dT a6) <| cQ ?_
   have aY := (iS hm).1
   replace hm := (iS hm).2
   obtain ⟨U, bp, hm⟩ := bS hm
   refine cD mixed rfl (fun f0 L f w => ∃ (al : Option Addr) (aj : Nat) (B : Option Addr) (y : Nat) (O : Im), Im.le I O ∧ f = frL [(65, 0, .slice aV x1.length a5), (66, 1, pQ b1 1), (67, 2, iN s), (68, 3, .pointer (some (ea aV (s.toNat * 3)))), (69, 4, .agg (rL2 (at' x1 s) al aj).toArray), (70, 5, pQ b1 13), (71, 6, .agg (cL0 ag af Z T.length Y).toArray), (72, 7, .tuple #[.agg (cL0 U.1 U.2.1 B U.2.2.1.length y).toArray, iN U.2.2.2]), (73, 8, .agg (cL0 U.1 U.2.1 B U.2.2.1.length y).toArray), (74, 9, iN U.2.2.2), (5, 11, iN U.2.2.2)] L f0 ∧ Sat O (rL [(10, blk b3 26 (cL0 U.1 U.2.1 B U.2.2.1.length y))] (blk b3 26 (cL0 0 0 none 0 0)) L :: blk b1 42 (cL9 ap s ah ax aw av au ar aC aT aB az aq.length ay aA ag af Z T.length Y) :: F) w ∧ (L 4 = true → Rs O 1 al ((at' x1 s).2.2).length aj (((at' x1 s).2.2).flatMap e64)) ∧ (L 7 = true → Rs O 1 B U.2.2.1.length y (U.2.2.1.flatMap e64)) ∧ (L 10 = true → L 7 = true) ∧ (L 8 = true → L 7 = true) ∧ (L 7 = true → L 4 = true)) ⟨none, 0, none, 0, I, iR, (frL_ff _).symm, hs.drew, (fun h => by cases h), (fun h => by cases h), (fun h => by cases h), (fun h => by cases h), (fun h => by cases h)⟩ ⟨?_, ?_, ?_, ?_, ?_, ?_, ?_, ?_, ?_, ?_, ?_, ?_, trivial⟩ ?_
   all_goals clear hs
   · rintro L f w _ hL ⟨al, aj, B, y, O, d, rfl, hs, Q, E, c, j, e⟩
     refine mS rfl ?_
     exact oN ⟨rfl, rfl, al, aj, B, y, O, d, fS rfl rfl, hs, (fun h => Q h), (fun h => E h), c, j, e⟩
   · rintro L f w _ hL ⟨al, aj, B, y, O, d, rfl, hs, Q, E, c, j, e⟩
     refine oF (b := b1) (o := 0) fl42_1 rfl ?_
     exact oN ⟨rfl, rfl, al, aj, B, y, O, d, fS rfl rfl, hs, (fun h => Q h), (fun h => E h), c, j, e⟩
   · rintro L f w ⟨aP, _⟩ hL ⟨al, aj, B, y, O, d, rfl, hs, Q, E, c, j, e⟩
     refine ld1 (k := 1) hs rfl (fG rfl aP) ty3 rfl ?_
     exact oN ⟨rfl, rfl, al, aj, B, y, O, d, fS rfl rfl, hs, (fun h => Q h), (fun h => E h), c, j, e⟩
   · rintro L f w ⟨aQ, aO, _⟩ hL ⟨al, aj, B, y, O, d, rfl, hs, Q, E, c, j, e⟩
     replace an := an.mono d
     refine oI (i := s) sl86 ty26 (fG rfl aQ) (fG rfl aO) aY.1 aY.2 (SN26.some an (by have := aY; omega)) ?_
     exact oN ⟨rfl, rfl, al, aj, B, y, O, d, fS rfl rfl, hs, (fun h => Q h), (fun h => E h), c, j, e⟩
   · rintro L f w ⟨aN, _⟩ hL ⟨al, aj, B, y, O, d, rfl, hs, Q, E, c, j, e⟩
     replace an := an.mono d
     obtain ⟨csu58, hru58, hnu58⟩ := (id an)
     obtain ⟨vsu58, hvu58, al, aj, rfl, aG⟩ := NL.at rl26.len hnu58 aY.1 aY.2
     refine oLR (p := s.toNat * 3) (vs := (rL2 (at' x1 s) al aj)) (v := .agg (rL2 (at' x1 s) al aj).toArray) hs hru58 (fG rfl aN) ty26 ((cells_part hvu58 0 3 (by decide)).trans rfl) rfl rfl ?_
     exact oN ⟨rfl, rfl, al, aj, B, y, O, d, (Eq.trans (fSG (i := 4) rfl rfl) (rfl)), hs, (fun _ => aG), (fun h => E h), c, j, (fun _ => rfl)⟩
   · rintro L f w _ hL ⟨al, aj, B, y, O, d, rfl, hs, Q, E, c, j, e⟩
     refine oF (b := b1) (o := 0) fl42_7 rfl ?_
     exact oN ⟨rfl, rfl, al, aj, B, y, O, d, fS rfl rfl, hs, (fun h => Q h), (fun h => E h), c, j, e⟩
   · rintro L f w ⟨aM, _⟩ hL ⟨al, aj, B, y, O, d, rfl, hs, Q, E, c, j, e⟩
     refine oL (k := 1) (vs := (cL0 ag af Z T.length Y)) (v := .agg (cL0 ag af Z T.length Y).toArray) hs rfl (fG rfl aM) ty40 rfl rfl rfl ?_
     exact oN ⟨rfl, rfl, al, aj, B, y, O, d, fS rfl rfl, hs, (fun h => Q h), (fun h => E h), c, j, e⟩
   · rintro L f w ⟨ai, aL, _⟩ hL ⟨al, aj, B, y, O, d, rfl, hs, Q, E, c, j, e⟩
     have aG := Q ai
     replace hs := hs.eqv (k := 0) rfl ((rL_f (show L 10 = false from pF c hL) (rfl)))
     replace aE := aE.mono d
     refine oC (fi := []) (vs := [.agg (rL2 (at' x1 s) al aj).toArray, .agg (cL0 ag af Z T.length Y).toArray]) (ca := []) rfl ⟨(fG rfl ai), (fG rfl aL), trivial⟩ en47 (f47_ok _ _ _ _ _ _ bp hs aG aE) ?_
     clear hs; rintro _ w ⟨bw, B, y, bb, hs, rfl, hRz66_2⟩
     replace hs := hs.eqv (k := 0) rfl (Eq.symm (a := rL [(10, blk b3 26 (cL0 U.1 U.2.1 B U.2.2.1.length y))] (blk b3 26 (cL0 0 0 none 0 0)) (setL L 7)) (((rL_f (L := setL L 7) (show L 10 = false from pF c hL) (rfl)))))
     exact oN ⟨rfl, rfl, al, aj, B, y, bw, (d.trans bb), (Eq.trans (fSG (i := 7) rfl rfl) (Eq.trans (fD (u := undef) (i := 8) (v := .agg (cL0 U.1 U.2.1 B U.2.2.1.length y).toArray) (L := setL L 7) (show L 8 = false from pF j hL)) (rfl))), hs, (fun h => (Q h).mono bb), (fun _ => hRz66_2), (fun _ => rfl), (fun _ => rfl), (fun _ => ai)⟩
   · rintro L f w ⟨aa, _⟩ hL ⟨al, aj, B, y, O, d, rfl, hs, Q, E, c, j, e⟩
     have aG := Q (e aa)
     have hRz66_2 := E aa
     refine oV (xE (v := .agg (cL0 U.1 U.2.1 B U.2.2.1.length y).toArray) (fG rfl aa) rfl) rfl ?_
     exact oN ⟨rfl, rfl, al, aj, B, y, O, d, fS rfl rfl, hs, (fun h => Q h), (fun h => E h), c, (fun _ => aa), e⟩
   · rintro L f w ⟨aa, _⟩ hL ⟨al, aj, B, y, O, d, rfl, hs, Q, E, c, j, e⟩
     have aG := Q (e aa)
     have hRz66_2 := E aa
     refine oV (xE (v := iN U.2.2.2) (fG rfl aa) rfl) rfl ?_
     exact oN ⟨rfl, rfl, al, aj, B, y, O, d, fS rfl rfl, hs, (fun h => Q h), (fun h => E h), c, j, e⟩
   · rintro L f w ⟨aU, aa, aQ, aP, aO, aN, ai, aM, aL, _, _, aF, _⟩ hL ⟨al, aj, B, y, O, d, rfl, hs, Q, E, c, j, e⟩
     have aG := Q ai
     have hRz66_2 := E aa
     replace hs := hs.eqv (k := 0) rfl ((rL_f hL (rL_n)))
     refine oS (k := 0) (vs := (cL0 U.1 U.2.1 B U.2.2.1.length y)) (cs' := (cL0 U.1 U.2.1 B U.2.2.1.length y)) hs rfl rfl (fG rfl aU) ty26 rfl rfl (nLe rfl) rfl rfl ?_
     clear hs; intro w hs
     exact oN ⟨rfl, rfl, al, aj, B, y, O, d, frL_no rfl, hs, (fun h => Q h), (fun h => E h), (fun _ => aa), j, e⟩
   · rintro L f w ⟨aF, aX, aQ, aP, aO, aN, ai, aM, aL, aa, aU, _, _, _⟩ hL ⟨al, aj, B, y, O, d, rfl, hs, Q, E, c, j, e⟩
     have aG := Q ai
     have hRz66_2 := E aa
     refine asI (fG rfl aF) ?_
     exact oN ⟨rfl, rfl, al, aj, B, y, O, d, fS rfl rfl, hs, (fun h => Q h), (fun h => E h), c, j, e⟩
   rintro L f w hall ⟨al, aj, B, y, bD, bj, rfl, hs, aG, hRz66_2, _, _, _⟩
   rw [frL_tt _ rfl hall]
   replace hs := hs.eqv (k := 0) rfl (rL_t (hall 10 (nLe rfl)))
   replace aG := aG (hall 4 (nLe rfl))
   replace hRz66_2 := hRz66_2 (hall 7 (nLe rfl))
   refine sK <| cw_ret <| blockK_r <| seqK_r <| rK (rs := [.cell 4 26, .tmp 5]) (vs := [.agg (cL0 U.1 U.2.1 B U.2.2.1.length y).toArray, iN U.2.2.2]) (.inr rfl) rfl ⟨⟨_, true, _, (cL0 U.1 U.2.1 B U.2.2.1.length y), rfl, ty26, CA_blk (off := 0) (m := 3) (hs.blk (k := 0) rfl), rfl, rfl⟩, rfl, trivial⟩ ?_
   obtain rfl := oJ hm
   replace hs := hs.erase 0
   replace hs := hs.erase 0
   exact ⟨bD, B, y, bj, hs, rfl, hRz66_2⟩
 rw [if_neg a6] at hm
 refine cIf rfl (dF a6) <| cw_skip <| blockK_n <| sQR <| cR <| oU (vp := []) (cs := (cL0 0 0 none 0 0)) st26 ty26 trivial rfl <| oS (k := 0) (vs := (cL0 0 0 none 0 0)) (cs' := (cL0 0 0 none 0 0)) hs rfl rfl rfl ty26 rfl rfl (nLe rfl) rfl rfl ?_
 clear hs; intro w hs
 refine asI rfl <| oN <| sK <| cw_ret <| rK (rs := [.cell 4 26, .tmp 5]) (vs := [.agg (cL0 0 0 none 0 0).toArray, iN 30]) (.inr rfl) rfl ⟨⟨_, true, _, (cL0 0 0 none 0 0), rfl, ty26, CA_blk (off := 0) (m := 3) (hs.blk (k := 0) rfl), rfl, rfl⟩, rfl, trivial⟩ ?_
 obtain rfl := oJ hm
 replace hs := hs.erase 0
 replace hs := hs.erase 0
 exact ⟨I, none, 0, iR, hs, rfl, (Rs.nil _ _ _)⟩
def f32_l1 (e : Int) (a : Int) (m : List Int) : Nat → Int → Option (Sum Unit Int)
  | 0, _ => none
  | k + 1, d => (if d < (m.length : Int) then (if 0 ≤ d ∧ d < (m.length : Int) then ((f59_m (at' m d) 0 (w64 ((w64 (e + a)) - 1))).bind fun aj => (if (!aj) = true then some (Sum.inr 30) else (f32_l1 e a m k (w64 (d + 1))))) else none) else some (Sum.inl ()))
def f32_l0 (e : Int) (c : List (T2x)) : Nat → Int → Option (Sum Unit Int)
  | 0, _ => none
  | k + 1, a => (if a < (c.length : Int) then (lb (S := Unit) (if 0 ≤ a ∧ a < (c.length : Int) then (lb (S := Unit) ((f60_m ((at' c a).1) ((at' c a).2.1) ((at' c a).2.2.1) ((at' c a).2.2.2.1) ((at' c a).2.2.2.2.1) ((at' c a).2.2.2.2.2.1) ((at' c a).2.2.2.2.2.2.1) ((at' c a).2.2.2.2.2.2.2.1) ((at' c a).2.2.2.2.2.2.2.2.1) ((at' c a).2.2.2.2.2.2.2.2.2.1) ((at' c a).2.2.2.2.2.2.2.2.2.2.1) ((at' c a).2.2.2.2.2.2.2.2.2.2.2.1) ((at' c a).2.2.2.2.2.2.2.2.2.2.2.2.1) ((at' c a).2.2.2.2.2.2.2.2.2.2.2.2.2.1) ((at' c a).2.2.2.2.2.2.2.2.2.2.2.2.2.2.1) ((at' c a).2.2.2.2.2.2.2.2.2.2.2.2.2.2.2)).bind fun m => (f32_l1 e a m FUEL 0)) Sum.inr (fun aQ => ((f61_m ((at' c a).1) 0 0 ((at' c a).2.2.2.1) ((at' c a).2.2.2.2.1) ((at' c a).2.2.2.2.2.1) ((at' c a).2.2.2.2.2.2.1) ((at' c a).2.2.2.2.2.2.2.1) ((at' c a).2.2.2.2.2.2.2.2.1) ((at' c a).2.2.2.2.2.2.2.2.2.1) ((at' c a).2.2.2.2.2.2.2.2.2.2.1) ((at' c a).2.2.2.2.2.2.2.2.2.2.2.1) ((at' c a).2.2.2.2.2.2.2.2.2.2.2.2.1) ((at' c a).2.2.2.2.2.2.2.2.2.2.2.2.2.1) ((at' c a).2.2.2.2.2.2.2.2.2.2.2.2.2.2.1) ((at' c a).2.2.2.2.2.2.2.2.2.2.2.2.2.2.2) ([(1, 1, [0])] : List (Int × Int × List Int))).bind fun h => (if ¬ (h.2.2.2 = 0) then some (Sum.inr 30) else some (Sum.inl ()))))) else none) Sum.inr (fun aR => (f32_l0 e c k (w64 (a + 1))))) else some (Sum.inl ()))
def f32_m (y : Int) (x : Int) (e : Int) (c : List (T2x)) : Option Int :=
  ((f59_m y 1 16).bind fun r3 => ((if (!r3) = true then some true else ((f59_m x 1 16).bind fun bl => some (!bl))).bind fun b8 => ((if b8 = true then some true else ((f59_m e 1 3).bind fun bk => some (!bk))).bind fun bt => ((if bt = true then some true else ((f59_m (c.length : Int) 1 12).bind fun bj => some (!bj))).bind fun bs => (if bs = true then some 30 else (lb (S := Unit) (f32_l0 e c FUEL 0) id (fun ba => some 0)))))))
theorem f32_ok (y : Int) (x : Int) (e : Int) (c : List (T2x)) {r : Int} (hm : f32_m y x e c = some r) {l : Option Addr} {j : Nat} {I : Im} {F : List HP} {w : World} (hs : Sat I (F) w) (ak : SN42 I l c.length j c) :
    CV P 32 [.agg (cL8 y x e l c.length j).toArray] w fun v w' => ∃ (J : Im), Im.le I J ∧ Sat J (F) w' ∧ v = iN r := by
 unfold f32_m at hm
 refine cv_of (n := 71) Proofs.Tryz.func32 rfl rfl (nLe rfl) <| cQ <| cR <| oB (v := .agg (cL8 y x e l c.length j).toArray) (cs := (cL8 y x e l c.length j)) hs rfl rfl ?_
 clear hs; intro b1 w hs
 refine asI rfl <| oN <| sQR <| cQ <| cR <| oF (b := b1) (o := 0) fl33_0 rfl <| ld1 (k := 0) hs rfl rfl ty3 rfl ?_
 obtain ⟨r3, bL, hm⟩ := bS hm
 refine oC (fi := []) (vs := (cL1 y 1 16)) (ca := []) rfl ⟨rfl, rfl, rfl, trivial⟩ en59 (f59_ok _ _ _ bL hs) ?_
 clear hs; rintro _ w ⟨J5, aL, hs, rfl⟩
 refine oV (x_not (b := r3) rfl) rfl <| mB rfl ?_
 obtain ⟨b8, ad, hm⟩ := bS hm
 refine oJN 5 (fun f ds w => ∃ (I9 : Im), ds = [] ∧ Im.le J5 I9 ∧ Sat I9 (blk b1 33 (cL8 y x e l c.length j) :: F) w ∧ f 19 = .bool b8 ∧ f 1 = pQ b1 0 ∧ f 2 = iN 0) ?_ ?_
 · by_cases B : (!r3) = true
   · rw [if_pos B] at ad
     refine oO (b := true) (yO rfl rfl B) rfl <| oO (b := true) (yO rfl rfl B) rfl <| oO (b := true) (yO rfl rfl B) rfl <| oO (b := true) (yO rfl rfl B) rfl <| oV (xPt (v := .bool true) ((rfl : ev _ _ _ = _).trans (congrArg Value.bool B)) rfl) rfl <| oN ?_
     obtain rfl := oJ ad
     exact ⟨J5, rfl, iR, hs, rfl, rfl, rfl⟩
   rw [if_neg B] at ad
   refine oG (yO rfl rfl (bF B)) <| oF (b := b1) (o := 0) fl33_1 rfl <| oG (yO rfl rfl (bF B)) <| ld1 (k := 0) hs rfl rfl ty3 rfl <| oG (yO rfl rfl (bF B)) ?_
   obtain ⟨bl, bH, ad⟩ := bS ad
   refine oC (fi := []) (vs := (cL1 x 1 16)) (ca := []) rfl ⟨rfl, rfl, rfl, trivial⟩ en59 (f59_ok _ _ _ bH hs) ?_
   clear hs; rintro _ w ⟨bP, bB, hs, rfl⟩
   refine oG (yO rfl rfl (bF B)) <| oV (x_not (b := bl) rfl) rfl <| oV (xPf (v := .bool (!bl)) ((rfl : ev _ _ _ = _).trans (congrArg Value.bool (bF B))) rfl) rfl <| oN ?_
   obtain rfl := oJ ad
   exact ⟨bP, rfl, bB, hs, rfl, rfl, rfl⟩
 clear ad hs
 rintro f ds w ⟨I9, rfl, ag, hs, htbb8, al, a2⟩
 refine mB htbb8 ?_
 obtain ⟨bt, M, hm⟩ := bS hm
 refine oJN 5 (fun f ds w => ∃ (bi : Im), ds = [] ∧ Im.le I9 bi ∧ Sat bi (blk b1 33 (cL8 y x e l c.length j) :: F) w ∧ f 25 = .bool bt ∧ f 1 = pQ b1 0 ∧ f 2 = iN 0) ?_ ?_
 · by_cases A : b8 = true
   · rw [if_pos A] at M
     refine oO (b := true) (yO rfl rfl A) rfl <| oO (b := true) (yO rfl rfl A) rfl <| oO (b := true) (yO rfl rfl A) rfl <| oO (b := true) (yO rfl rfl A) rfl <| oV (xPt (v := .bool true) ((rfl : ev _ _ _ = _).trans (congrArg Value.bool A)) rfl) rfl <| oN ?_
     obtain rfl := oJ M
     exact ⟨I9, rfl, iR, hs, rfl, al, a2⟩
   rw [if_neg A] at M
   refine oG (yO rfl rfl (bF A)) <| oF (b := b1) (o := 0) fl33_2 al <| oG (yO rfl rfl (bF A)) <| ld1 (k := 0) hs rfl rfl ty3 rfl <| oG (yO rfl rfl (bF A)) ?_
   obtain ⟨bk, bG, M⟩ := bS M
   refine oC (fi := []) (vs := (cL1 e 1 3)) (ca := []) rfl ⟨rfl, rfl, rfl, trivial⟩ en59 (f59_ok _ _ _ bG hs) ?_
   clear hs; rintro _ w ⟨bO, bA, hs, rfl⟩
   refine oG (yO rfl rfl (bF A)) <| oV (x_not (b := bk) rfl) rfl <| oV (xPf (v := .bool (!bk)) ((rfl : ev _ _ _ = _).trans (congrArg Value.bool (bF A))) rfl) rfl <| oN ?_
   obtain rfl := oJ M
   exact ⟨bO, rfl, bA, hs, rfl, al, a2⟩
 clear M hs
 rintro f ds w ⟨bi, rfl, af, hs, htbb17, ac, aI⟩
 refine mB htbb17 ?_
 obtain ⟨bs, L, hm⟩ := bS hm
 refine oJN 6 (fun f ds w => ∃ (bv : Im), ds = [] ∧ Im.le bi bv ∧ Sat bv (blk b1 33 (cL8 y x e l c.length j) :: F) w ∧ f 32 = .bool bs ∧ f 1 = pQ b1 0 ∧ f 2 = iN 0) ?_ ?_
 · by_cases z : bt = true
   · rw [if_pos z] at L
     refine oO (b := true) (yO rfl rfl z) rfl <| oO (b := true) (yO rfl rfl z) rfl <| oO (b := true) (yO rfl rfl z) rfl <| oO (b := true) (yO rfl rfl z) rfl <| oO (b := true) (yO rfl rfl z) rfl <| oV (xPt (v := .bool true) ((rfl : ev _ _ _ = _).trans (congrArg Value.bool z)) rfl) rfl <| oN ?_
     obtain rfl := oJ L
     exact ⟨bi, rfl, iR, hs, rfl, ac, aI⟩
   rw [if_neg z] at L
   refine oG (yO rfl rfl (bF z)) <| oF (b := b1) (o := 0) fl33_3 ac <| oG (yO rfl rfl (bF z)) <| ld1 (k := 0) hs rfl rfl ty31 rfl <| oG (yO rfl rfl (bF z)) <| oV (x_len sl31 rfl) rfl <| oG (yO rfl rfl (bF z)) ?_
   obtain ⟨bj, bE, L⟩ := bS L
   refine oC (fi := []) (vs := (cL1 (c.length : Int) 1 12)) (ca := []) rfl ⟨rfl, rfl, rfl, trivial⟩ en59 (f59_ok _ _ _ bE hs) ?_
   clear hs; rintro _ w ⟨bN, bz, hs, rfl⟩
   refine oG (yO rfl rfl (bF z)) <| oV (x_not (b := bj) rfl) rfl <| oV (xPf (v := .bool (!bj)) ((rfl : ev _ _ _ = _).trans (congrArg Value.bool (bF z))) rfl) rfl <| oN ?_
   obtain rfl := oJ L
   exact ⟨bN, rfl, bz, hs, rfl, ac, aI⟩
 clear L hs
 rintro f ds w ⟨bv, rfl, ae, hs, htbb26, aJ, bc⟩
 refine oN <| sK ?_
 by_cases a6 : bs = true
 · rw [if_pos a6] at hm
   refine cIt htbb26 a6 <| cQ <| cR <| asI rfl <| oN <| sK <| cw_ret <| seqK_r <| rK (rs := [.tmp 2]) (vs := [iN 30]) (.inr rfl) rfl ⟨rfl, trivial⟩ ?_
   obtain rfl := oJ hm
   replace hs := hs.erase 0
   exact ⟨bv, (((aL.trans ag).trans af).trans ae), hs, rfl⟩
 rw [if_neg a6] at hm
 refine cIf htbb26 (bF a6) <| cw_skip <| sQR <| cR <| ow_buildSlice (vp := [(0, iN 0)]) (cs := [iN 0]) hs sl24 ty3 rfl ⟨rfl, rfl, trivial⟩ (by decide) rfl (by decide) ?_
 clear hs; intro N bu w ao hs aP
 replace aP : Rs bu 1 N [0].length 1 ([0].flatMap e64) := aP
 refine oU (vp := [(0, iN 1), (1, iN 1), (2, .slice N ([0].length) 1)]) (cs := (cL0 1 1 N ([0].length) 1)) st26 ty26 ⟨rfl, rfl, rfl, rfl, rfl, rfl, trivial⟩ rfl <| ow_alloc hs ty26 rfl ?_
 clear hs; intro aq w hs
 refine oS (k := 0) (vs := (cL0 1 1 N ([0].length) 1)) (cs' := (cL0 1 1 N ([0].length) 1)) hs rfl rfl rfl ty26 rfl rfl (nLe rfl) rfl rfl ?_
 clear hs; intro w hs
 refine oN <| sK ?_
 obtain ⟨bw, aK, aX⟩ := lb_some hm
 replace hm := aK; clear aK
 refine cJ (fun f ds w => ∃ (ba : Unit) (a7 : Im), ds = [] ∧ Im.le bu a7 ∧ bw = Sum.inl ba ∧ Sat a7 (blk aq 26 (cL0 1 1 N ([0].length) 1) :: blk b1 33 (cL8 y x e l c.length j) :: F) w ∧ f 2 = iN 0) ?_ ?_
 · refine cQ <| cR <| oF (b := b1) (o := 0) fl33_3 aJ <| ld1 (k := 1) hs rfl rfl ty31 rfl <| oV (x_len sl31 rfl) rfl <| mI rfl <| oN <| sK <| cw_block ?_
   refine cL (S := fun k f ds w => ∃ (a : Int), ∃ (ai : Im), ds = [] ∧ Im.le bu ai ∧ f32_l0 e c k a = some bw ∧ Sat ai (blk aq 26 (cL0 1 1 N ([0].length) 1) :: blk b1 33 (cL8 y x e l c.length j) :: F) w ∧ f 1 = pQ b1 0 ∧ f 2 = iN 0 ∧ f 3 = pQ aq 0 ∧ f 36 = .slice l c.length j ∧ f 37 = iN (c.length : Int) ∧ f 38 = iN a) ?_ (k := FUEL) ⟨0, bu, rfl, iR, hm, hs, aJ, bc, rfl, rfl, rfl, rfl⟩
   clear hm hs
   rintro k f ds w ⟨a, ai, rfl, E, hm, hs, bn, a4, bm, aH, aD, O⟩
   rcases k with _ | k
   · unfold f32_l0 at hm; cases hm
   unfold f32_l0 at hm
   refine cQ <| cR <| oV (x_lss O aD) rfl <| oN <| sQR ?_
   by_cases ap : a < (c.length : Int)
   · rw [if_pos ap] at hm
     refine cIt rfl (dT ap) <| cw_skip <| sK ?_
     obtain ⟨bx, aK, an⟩ := lb_some hm
     replace hm := aK; clear aK
     refine cJ (fun f ds w => ∃ (aR : Unit) (au : Im), ds = [] ∧ Im.le ai au ∧ bx = Sum.inl aR ∧ Sat au (blk aq 26 (cL0 1 1 N ([0].length) 1) :: blk b1 33 (cL8 y x e l c.length j) :: F) w ∧ f 1 = pQ b1 0 ∧ f 2 = iN 0 ∧ f 3 = pQ aq 0 ∧ f 36 = .slice l c.length j ∧ f 37 = iN (c.length : Int) ∧ f 38 = iN a) ?_ ?_
     · refine cw_block <| cQ <| cR <| mI O ?_
       have T := (iS hm).1
       replace hm := (iS hm).2
       replace ak := ak.mono (((((aL.trans ag).trans af).trans ae).trans ao).trans E)
       refine oI (i := a) sl31 ty42 aH O T.1 T.2 (SN42.some ak (by have := T; omega)) ?_
       obtain ⟨csu1019, hru1019, hnu1019⟩ := (id ak)
       obtain ⟨vsu1019, hvu1019, u, s, t, q, rfl, Z, Y⟩ := NL.at rl42.len hnu1019 T.1 T.2
       refine oLR (p := a.toNat * 16) (vs := (rL10 (at' c a) u s t q)) (v := .agg (rL10 (at' c a) u s t q).toArray) hs hru1019 rfl ty42 ((cells_part hvu1019 0 16 (by decide)).trans rfl) rfl rfl <| ow_alloc hs ty42 rfl ?_
       clear hs; intro U w hs
       refine asI rfl <| oS (k := 0) (vs := (rL10 (at' c a) u s t q)) (cs' := (rL10 (at' c a) u s t q)) hs rfl rfl rfl ty42 rfl rfl (nLe rfl) rfl rfl ?_
       clear hs; intro w hs
       refine oN <| sK ?_
       obtain ⟨bb, aK, a5⟩ := lb_some hm
       replace hm := aK; clear aK
       refine cJ (fun f ds w => ∃ (aQ : Unit) (aY : Im), ds = [] ∧ Im.le ai aY ∧ bb = Sum.inl aQ ∧ Sat aY (blk U 42 (rL10 (at' c a) u s t q) :: blk aq 26 (cL0 1 1 N ([0].length) 1) :: blk b1 33 (cL8 y x e l c.length j) :: F) w ∧ f 1 = pQ b1 0 ∧ f 2 = iN 0 ∧ f 3 = pQ aq 0 ∧ f 5 = pQ U 0 ∧ f 36 = .slice l c.length j ∧ f 37 = iN (c.length : Int) ∧ f 38 = iN a) ?_ ?_
       · refine cQ <| cR <| oL (k := 0) (vs := (rL10 (at' c a) u s t q)) (v := .agg (rL10 (at' c a) u s t q).toArray) hs rfl rfl ty42 rfl rfl rfl ?_
         obtain ⟨m, bq, hm⟩ := bS hm
         refine oC (fi := []) (vs := [.agg (rL10 (at' c a) u s t q).toArray]) (ca := []) rfl ⟨rfl, trivial⟩ en60 (f60_ok _ _ _ _ _ _ _ _ _ _ _ _ _ _ _ _ bq hs Z Y) ?_
         clear hs; rintro _ w ⟨bh, a9, a8, aO, hs, rfl, hRz1065_0⟩
         refine oV (x_len sl24 rfl) rfl <| mI rfl <| oN <| sK <| cw_block ?_
         refine cL (S := fun k f ds w => ∃ (d : Int), ∃ (ar : Im), ds = [] ∧ Im.le bh ar ∧ f32_l1 e a m k d = some bb ∧ Sat ar (blk U 42 (rL10 (at' c a) u s t q) :: blk aq 26 (cL0 1 1 N ([0].length) 1) :: blk b1 33 (cL8 y x e l c.length j) :: F) w ∧ f 1 = pQ b1 0 ∧ f 2 = iN 0 ∧ f 3 = pQ aq 0 ∧ f 4 = iN a ∧ f 5 = pQ U 0 ∧ f 36 = .slice l c.length j ∧ f 37 = iN (c.length : Int) ∧ f 38 = iN a ∧ f 44 = .slice a9 m.length a8 ∧ f 45 = iN (m.length : Int) ∧ f 46 = iN d) ?_ (k := FUEL) ⟨0, bh, rfl, iR, hm, hs, bn, a4, bm, rfl, rfl, aH, aD, O, rfl, rfl, rfl⟩
         clear hm hs
         rintro k f ds w ⟨d, ar, rfl, Q, hm, hs, am, a3, a1, a0, aZ, aG, aC, az, aw, av, aa⟩
         rcases k with _ | k
         · unfold f32_l1 at hm; cases hm
         unfold f32_l1 at hm
         refine cQ <| cR <| oV (x_lss aa av) rfl <| oN <| sQR ?_
         by_cases X : d < (m.length : Int)
         · rw [if_pos X] at hm
           refine cIt rfl (dT X) <| cw_skip <| sQR <| cw_block <| cQ <| cR ?_
           have R := (iS hm).1
           replace hm := (iS hm).2
           replace hRz1065_0 := hRz1065_0.mono Q
           refine oI (i := d) sl24 ty3 aw aa R.1 R.2 (Rs.some hRz1065_0 (by have := R; omega)) <| oLR (p := d.toNat * 1) (vs := [iN (at' m d)]) (v := iN (at' m d)) hs hRz1065_0 rfl ty3 (flat_at (enc := e64) (sz := 1) (fun _ => rfl) m d R.1 R.2 0 1 (by decide)) rfl rfl <| asI rfl <| oN <| sQR <| cR <| mI rfl <| oF (b := b1) (o := 0) fl33_2 am <| ld1 (k := 2) hs rfl rfl ty3 rfl <| mI a0 <| oV (x_add rfl rfl) rfl ?_
           refine oV (x_sub rfl rfl) rfl ?_
           obtain ⟨aj, bp, hm⟩ := bS hm
           refine oC (fi := []) (vs := (cL1 (at' m d) 0 (w64 ((w64 (e + a)) - 1)))) (ca := []) rfl ⟨rfl, rfl, rfl, trivial⟩ en59 (f59_ok _ _ _ bp hs) ?_
           clear hs; rintro _ w ⟨bg, aN, hs, rfl⟩
           refine oV (x_not (b := aj) rfl) rfl <| oN <| sK ?_
           by_cases W : (!aj) = true
           · rw [if_pos W] at hm
             refine cIt rfl W <| cQ <| cR <| asI rfl <| oN <| sK <| cw_ret <| blockK_r <| seqK_r <| loopK_r <| blockK_r <| joinK_r ?_
             refine blockK_r <| joinK_r <| loopK_r <| blockK_r <| joinK_r <| rK (rs := [.tmp 2]) (vs := [iN 30]) (.inr rfl) rfl ⟨rfl, trivial⟩ ?_
             replace hm := lret hm a5
             replace hm := lret hm an
             replace hm := lret hm aX
             obtain rfl := oJ hm
             replace hs := hs.erase 0
             replace hs := hs.erase 0
             replace hs := hs.erase 0
             exact ⟨bg, ((((((((aL.trans ag).trans af).trans ae).trans ao).trans E).trans aO).trans Q).trans aN), hs, rfl⟩
           rw [if_neg W] at hm
           refine cIf rfl (bF W) <| cw_skip <| blockK_n <| sK <| cR <| oV (x_add aa rfl) rfl <| mI rfl <| oN ?_
           exact lN ⟨k, Nat.lt_succ_self k, w64 (d + 1), bg, rfl, (Q.trans aN), hm, hs, am, a3, a1, a0, aZ, aG, aC, az, aw, av, rfl⟩
         rw [if_neg X] at hm
         refine cIf rfl (dF X) <| cw_exit <| seqK_x <| loopK_x <| blockK_hit ?_
         obtain rfl := oJ hm
         refine jN ⟨(), ar, rfl, (aO.trans Q), rfl, hs, am, a3, a1, aZ, aG, aC, az⟩
       clear hm hs
       rintro f ds w ⟨aQ, aY, rfl, D, rfl, hs, aV, aT, ab, K, aE, aA, ax⟩
       replace hm := lexit rfl a5
       refine cQ <| cR <| oF (b := U) (o := 0) fl42_1 K <| oS (k := 0) (vs := [iN 0]) (cs' := (cL9 ((at' c a).1) 0 ((at' c a).2.2.1) ((at' c a).2.2.2.1) ((at' c a).2.2.2.2.1) ((at' c a).2.2.2.2.2.1) ((at' c a).2.2.2.2.2.2.1) ((at' c a).2.2.2.2.2.2.2.1) ((at' c a).2.2.2.2.2.2.2.2.1) ((at' c a).2.2.2.2.2.2.2.2.2.1) ((at' c a).2.2.2.2.2.2.2.2.2.2.1) u (((at' c a).2.2.2.2.2.2.2.2.2.2.2.1).length) s ((at' c a).2.2.2.2.2.2.2.2.2.2.2.2.1) ((at' c a).2.2.2.2.2.2.2.2.2.2.2.2.2.1) ((at' c a).2.2.2.2.2.2.2.2.2.2.2.2.2.2.1) t (((at' c a).2.2.2.2.2.2.2.2.2.2.2.2.2.2.2).length) q)) hs rfl rfl rfl ty3 rfl rfl (nLe rfl) rfl rfl ?_
       clear hs; intro w hs
       refine oF (b := U) (o := 0) fl42_2 K <| oS (k := 0) (vs := [iN 0]) (cs' := (cL9 ((at' c a).1) 0 0 ((at' c a).2.2.2.1) ((at' c a).2.2.2.2.1) ((at' c a).2.2.2.2.2.1) ((at' c a).2.2.2.2.2.2.1) ((at' c a).2.2.2.2.2.2.2.1) ((at' c a).2.2.2.2.2.2.2.2.1) ((at' c a).2.2.2.2.2.2.2.2.2.1) ((at' c a).2.2.2.2.2.2.2.2.2.2.1) u (((at' c a).2.2.2.2.2.2.2.2.2.2.2.1).length) s ((at' c a).2.2.2.2.2.2.2.2.2.2.2.2.1) ((at' c a).2.2.2.2.2.2.2.2.2.2.2.2.2.1) ((at' c a).2.2.2.2.2.2.2.2.2.2.2.2.2.2.1) t (((at' c a).2.2.2.2.2.2.2.2.2.2.2.2.2.2.2).length) q)) hs rfl rfl rfl ty3 rfl rfl (nLe rfl) rfl rfl ?_
       clear hs; intro w hs
       refine oN <| sQR <| cR <| oL (k := 0) (vs := (cL9 ((at' c a).1) 0 0 ((at' c a).2.2.2.1) ((at' c a).2.2.2.2.1) ((at' c a).2.2.2.2.2.1) ((at' c a).2.2.2.2.2.2.1) ((at' c a).2.2.2.2.2.2.2.1) ((at' c a).2.2.2.2.2.2.2.2.1) ((at' c a).2.2.2.2.2.2.2.2.2.1) ((at' c a).2.2.2.2.2.2.2.2.2.2.1) u (((at' c a).2.2.2.2.2.2.2.2.2.2.2.1).length) s ((at' c a).2.2.2.2.2.2.2.2.2.2.2.2.1) ((at' c a).2.2.2.2.2.2.2.2.2.2.2.2.2.1) ((at' c a).2.2.2.2.2.2.2.2.2.2.2.2.2.2.1) t (((at' c a).2.2.2.2.2.2.2.2.2.2.2.2.2.2.2).length) q)) (v := .agg (cL9 ((at' c a).1) 0 0 ((at' c a).2.2.2.1) ((at' c a).2.2.2.2.1) ((at' c a).2.2.2.2.2.1) ((at' c a).2.2.2.2.2.2.1) ((at' c a).2.2.2.2.2.2.2.1) ((at' c a).2.2.2.2.2.2.2.2.1) ((at' c a).2.2.2.2.2.2.2.2.2.1) ((at' c a).2.2.2.2.2.2.2.2.2.2.1) u (((at' c a).2.2.2.2.2.2.2.2.2.2.2.1).length) s ((at' c a).2.2.2.2.2.2.2.2.2.2.2.2.1) ((at' c a).2.2.2.2.2.2.2.2.2.2.2.2.2.1) ((at' c a).2.2.2.2.2.2.2.2.2.2.2.2.2.2.1) t (((at' c a).2.2.2.2.2.2.2.2.2.2.2.2.2.2.2).length) q).toArray) hs rfl K ty42 rfl rfl rfl <| oL (k := 1) (vs := (cL0 1 1 N ([0].length) 1)) (v := .agg (cL0 1 1 N ([0].length) 1).toArray) hs rfl ab ty26 rfl rfl rfl <| ow_buildSlice (vp := [(0, .agg (cL0 1 1 N ([0].length) 1).toArray)]) (cs := (cL0 1 1 N ([0].length) 1)) hs sl86 ty26 rfl ⟨rfl, rfl, trivial⟩ (by decide) rfl (by decide) ?_
       clear hs; intro bC bQ w C hs br
       obtain ⟨h, bo, hm⟩ := bS hm
       replace aP := aP.mono ((E.trans D).trans C); replace Z := Z.mono (D.trans C); replace Y := Y.mono (D.trans C)
       refine oC (fi := []) (vs := [.agg (cL9 ((at' c a).1) 0 0 ((at' c a).2.2.2.1) ((at' c a).2.2.2.2.1) ((at' c a).2.2.2.2.2.1) ((at' c a).2.2.2.2.2.2.1) ((at' c a).2.2.2.2.2.2.2.1) ((at' c a).2.2.2.2.2.2.2.2.1) ((at' c a).2.2.2.2.2.2.2.2.2.1) ((at' c a).2.2.2.2.2.2.2.2.2.2.1) u (((at' c a).2.2.2.2.2.2.2.2.2.2.2.1).length) s ((at' c a).2.2.2.2.2.2.2.2.2.2.2.2.1) ((at' c a).2.2.2.2.2.2.2.2.2.2.2.2.2.1) ((at' c a).2.2.2.2.2.2.2.2.2.2.2.2.2.2.1) t (((at' c a).2.2.2.2.2.2.2.2.2.2.2.2.2.2.2).length) q).toArray, .slice bC 1 1]) (ca := []) rfl ⟨rfl, rfl, trivial⟩ en61 (f61_ok _ _ _ _ _ _ _ _ _ _ _ _ _ _ _ _ _ bo hs Z Y ⟨_, br, (NL.one ⟨N, 1, rfl, aP⟩)⟩) ?_
       clear hs; rintro _ w ⟨bf, H, G, aM, hs, rfl, hRz1101_2⟩
       refine oV (xM (v := .tuple #[.agg (cL0 h.1 h.2.1 H h.2.2.1.length G).toArray, iN h.2.2.2]) rfl) rfl <| oV (xE (v := .agg (cL0 h.1 h.2.1 H h.2.2.1.length G).toArray) rfl rfl) rfl <| oV (xE (v := iN h.2.2.2) rfl rfl) rfl <| ow_alloc hs ty26 rfl ?_
       clear hs; intro bM w hs
       refine oS (k := 0) (vs := (cL0 h.1 h.2.1 H h.2.2.1.length G)) (cs' := (cL0 h.1 h.2.1 H h.2.2.1.length G)) hs rfl rfl rfl ty26 rfl rfl (nLe rfl) rfl rfl ?_
       clear hs; intro w hs
       refine asI rfl <| oN <| sQR <| cR <| mI rfl <| oV (x_neqD rfl rfl) rfl <| oN <| sK ?_
       by_cases V : ¬ (h.2.2.2 = 0)
       · rw [if_pos V] at hm
         refine cIt rfl (dT V) <| cQ <| cR <| asI rfl <| oN <| sK <| cw_ret <| blockK_r <| joinK_r <| loopK_r <| blockK_r <| joinK_r ?_
         refine rK (rs := [.tmp 2]) (vs := [iN 30]) (.inr rfl) rfl ⟨rfl, trivial⟩ ?_
         replace hm := lret hm an
         replace hm := lret hm aX
         obtain rfl := oJ hm
         replace hs := hs.erase 0
         replace hs := hs.erase 0
         replace hs := hs.erase 0
         replace hs := hs.erase 0
         exact ⟨bf, ((((((((aL.trans ag).trans af).trans ae).trans ao).trans E).trans D).trans C).trans aM), hs, rfl⟩
       rw [if_neg V] at hm
       refine cIf rfl (dF V) <| cw_skip <| blockK_n ?_
       replace hs := hs.erase 0
       replace hs := hs.erase 0
       obtain rfl := oJ hm
       refine jN ⟨(), bf, rfl, ((D.trans C).trans aM), rfl, hs, aV, aT, ab, aE, aA, ax⟩
     clear hm hs
     rintro f ds w ⟨aR, au, rfl, be, rfl, hs, aW, aU, aS, aF, aB, ay⟩
     replace hm := lexit rfl an
     refine cR <| oV (x_add ay rfl) rfl <| mI rfl <| oN ?_
     exact lN ⟨k, Nat.lt_succ_self k, w64 (a + 1), au, rfl, (E.trans be), hm, hs, aW, aU, aS, aF, aB, rfl⟩
   rw [if_neg ap] at hm
   refine cIf rfl (dF ap) <| cw_exit <| seqK_x <| loopK_x <| blockK_hit ?_
   obtain rfl := oJ hm
   refine jN ⟨(), ai, rfl, E, rfl, hs, a4⟩
 clear hm hs
 rintro f ds w ⟨ba, a7, rfl, bd, rfl, hs, bD⟩
 replace hm := lexit rfl aX
 refine cQ <| cR <| asI rfl <| oN <| sK <| cw_ret <| rK (rs := [.tmp 2]) (vs := [iN 0]) (.inr rfl) rfl ⟨rfl, trivial⟩ ?_
 obtain rfl := oJ hm
 replace hs := hs.erase 0
 replace hs := hs.erase 0
 exact ⟨a7, (((((aL.trans ag).trans af).trans ae).trans ao).trans bd), hs, rfl⟩
def f36_l1 (ad : List Int) : Nat → Int → (List (Int × Int)) → Option (List (Int × Int))
  | 0, _, _ => none
  | k + 1, y, X => (if y < (ad.length : Int) then (if 0 ≤ y ∧ y < (ad.length : Int) then (f36_l1 ad k (w64 (y + 1)) (upM X (at' ad y) (w64 ((getM X (at' ad y) 0) + 1)))) else none) else some X)
def f36_l0 (d : List (T2x)) : Nat → Int → (List (Int × Int)) → Option (List (Int × Int))
  | 0, _, _ => none
  | k + 1, l, ah => (if l < (d.length : Int) then ((if 0 ≤ l ∧ l < (d.length : Int) then ((f60_m ((at' d l).1) ((at' d l).2.1) ((at' d l).2.2.1) ((at' d l).2.2.2.1) ((at' d l).2.2.2.2.1) ((at' d l).2.2.2.2.2.1) ((at' d l).2.2.2.2.2.2.1) ((at' d l).2.2.2.2.2.2.2.1) ((at' d l).2.2.2.2.2.2.2.2.1) ((at' d l).2.2.2.2.2.2.2.2.2.1) ((at' d l).2.2.2.2.2.2.2.2.2.2.1) ((at' d l).2.2.2.2.2.2.2.2.2.2.2.1) ((at' d l).2.2.2.2.2.2.2.2.2.2.2.2.1) ((at' d l).2.2.2.2.2.2.2.2.2.2.2.2.2.1) ((at' d l).2.2.2.2.2.2.2.2.2.2.2.2.2.2.1) ((at' d l).2.2.2.2.2.2.2.2.2.2.2.2.2.2.2)).bind fun ad => (f36_l1 ad FUEL 0 ah)) else none).bind fun (bk : List (Int × Int)) => (f36_l0 d k (w64 (l + 1)) bk)) else some ah)
def f36_l2 (x : Int) (d : List (T2x)) (ai : List (Int × Int)) : Nat → Int → (List (T3x)) → (List (Int × Int)) → Option ((List (T3x)) × (List (Int × Int)))
  | 0, _, _, _ => none
  | k + 1, c, e, D => (if c < (d.length : Int) then (if 0 ≤ c ∧ c < (d.length : Int) then ((if ((at' d c).1) = 1 then some (decide (x ≤ ((at' d c).2.1))) else some false).bind fun bQ => ((if bQ = true then some (decide ((getM ai ((at' d c).2.1) 0) = 1)) else some false).bind fun bP => (if bP = true then none else ((f60_m ((at' d c).1) ((at' d c).2.1) ((at' d c).2.2.1) ((at' d c).2.2.2.1) ((at' d c).2.2.2.2.1) ((at' d c).2.2.2.2.2.1) ((at' d c).2.2.2.2.2.2.1) ((at' d c).2.2.2.2.2.2.2.1) ((at' d c).2.2.2.2.2.2.2.2.1) ((at' d c).2.2.2.2.2.2.2.2.2.1) ((at' d c).2.2.2.2.2.2.2.2.2.2.1) ((at' d c).2.2.2.2.2.2.2.2.2.2.2.1) ((at' d c).2.2.2.2.2.2.2.2.2.2.2.2.1) ((at' d c).2.2.2.2.2.2.2.2.2.2.2.2.2.1) ((at' d c).2.2.2.2.2.2.2.2.2.2.2.2.2.2.1) ((at' d c).2.2.2.2.2.2.2.2.2.2.2.2.2.2.2)).bind fun G => (if e.length + ([((at' d c).1, (at' d c).2.1, (at' d c).2.2.1, (at' d c).2.2.2.1, (at' d c).2.2.2.2.1, (at' d c).2.2.2.2.2.1, (at' d c).2.2.2.2.2.2.1, (at' d c).2.2.2.2.2.2.2.1, (at' d c).2.2.2.2.2.2.2.2.1, (at' d c).2.2.2.2.2.2.2.2.2.1, (at' d c).2.2.2.2.2.2.2.2.2.2.1, (at' d c).2.2.2.2.2.2.2.2.2.2.2.1, (at' d c).2.2.2.2.2.2.2.2.2.2.2.2.1, (at' d c).2.2.2.2.2.2.2.2.2.2.2.2.2.1, (at' d c).2.2.2.2.2.2.2.2.2.2.2.2.2.2.1, (at' d c).2.2.2.2.2.2.2.2.2.2.2.2.2.2.2, ([] : List (T1x)), G, w64 (x + c))] : List (T3x)).length ≤ 4294967296 then (f36_l2 x d ai k (w64 (c + 1)) (e ++ ([((at' d c).1, (at' d c).2.1, (at' d c).2.2.1, (at' d c).2.2.2.1, (at' d c).2.2.2.2.1, (at' d c).2.2.2.2.2.1, (at' d c).2.2.2.2.2.2.1, (at' d c).2.2.2.2.2.2.2.1, (at' d c).2.2.2.2.2.2.2.2.1, (at' d c).2.2.2.2.2.2.2.2.2.1, (at' d c).2.2.2.2.2.2.2.2.2.2.1, (at' d c).2.2.2.2.2.2.2.2.2.2.2.1, (at' d c).2.2.2.2.2.2.2.2.2.2.2.2.1, (at' d c).2.2.2.2.2.2.2.2.2.2.2.2.2.1, (at' d c).2.2.2.2.2.2.2.2.2.2.2.2.2.2.1, (at' d c).2.2.2.2.2.2.2.2.2.2.2.2.2.2.2, ([] : List (T1x)), G, w64 (x + c))] : List (T3x))) (upM D (w64 (x + c)) (e.length : Int))) else none))))) else none) else some (e, D))
def f36_m (al : Int) (ak : Int) (x : Int) (d : List (T2x)) : Option (List (T3x)) :=
  ((f36_l0 d FUEL 0 ([] : List (Int × Int))).bind fun (ai : List (Int × Int)) => ((f36_l2 x d ai FUEL 0 ([] : List (T3x)) ([] : List (Int × Int))).bind fun (aq : (List (T3x)) × (List (Int × Int))) => some aq.1))
theorem f36_ok (al : Int) (ak : Int) (x : Int) (d : List (T2x)) {r : List (T3x)} (hm : f36_m al ak x d = some r) {T : Option Addr} {R : Nat} {I : Im} {F : List HP} {w : World} (hs : Sat I (F) w) (am : SN42 I T d.length R d) :
    CV P 36 [.agg (cL8 al ak x T d.length R).toArray] w fun v w' => ∃ (J : Im) (a0 : Option Addr) (c0 : Nat), Im.le I J ∧ Sat J (F) w' ∧ v = .slice a0 r.length c0 ∧ SN152 J a0 r.length c0 r := by
 unfold f36_m at hm
 refine cv_of (n := 107) Proofs.Tryz.func36 rfl rfl (nLe rfl) <| cQ <| cR <| oB (v := .agg (cL8 al ak x T d.length R).toArray) (cs := (cL8 al ak x T d.length R)) hs rfl rfl ?_
 clear hs; intro b1 w hs
 refine asS rfl <| oN <| sQR <| cR <| ow_makeMapQ (V := Int) (vv := vi64) mt143 hs ?_
 clear hs; intro m3 w hs
 refine oV (xA (v := .map (some m3)) rfl) rfl <| oN <| sK ?_
 obtain ⟨ai, bs, ck⟩ := bS hm
 replace hm := bs; clear bs
 refine cJ (fun f ds w => ∃ (aW : Im), ds = [] ∧ Im.le I aW ∧ Sat aW (mq m3 vi64 ai :: blk b1 33 (cL8 al ak x T d.length R) :: F) w ∧ f 1 = pQ b1 0 ∧ f 2 = .slice none 0 0 ∧ f 3 = .map (some m3)) ?_ ?_
 · refine cQ <| cR <| oF (b := b1) (o := 0) fl33_3 rfl <| ld1 (k := 1) hs rfl rfl ty31 rfl <| oV (x_len sl31 rfl) rfl <| mI rfl <| oN <| sK <| cw_block ?_
   refine cL (S := fun k f ds w => ∃ (l : Int) (ah : List (Int × Int)), ∃ (bw : Im), ds = [] ∧ Im.le I bw ∧ f36_l0 d k l ah = some ai ∧ Sat bw (mq m3 vi64 ah :: blk b1 33 (cL8 al ak x T d.length R) :: F) w ∧ f 1 = pQ b1 0 ∧ f 2 = .slice none 0 0 ∧ f 3 = .map (some m3) ∧ f 16 = .slice T d.length R ∧ f 17 = iN (d.length : Int) ∧ f 18 = iN l) ?_ (k := FUEL) ⟨0, ([] : List (Int × Int)), I, rfl, iR, hm, hs, rfl, rfl, rfl, rfl, rfl, rfl⟩
   clear hm hs
   rintro k f ds w ⟨l, ah, bw, rfl, bf, hm, hs, bM, bK, bI, br, bp, aP⟩
   rcases k with _ | k
   · unfold f36_l0 at hm; cases hm
   unfold f36_l0 at hm
   refine cQ <| cR <| oV (x_lss aP bp) rfl <| oN <| sQR ?_
   by_cases bj : l < (d.length : Int)
   · rw [if_pos bj] at hm
     refine cIt rfl (dT bj) <| cw_skip <| sK ?_
     obtain ⟨bk, bs, cj⟩ := bS hm
     replace hm := bs; clear bs
     refine cJ (fun f ds w => ∃ (bT : Im), ds = [] ∧ Im.le bw bT ∧ Sat bT (mq m3 vi64 bk :: blk b1 33 (cL8 al ak x T d.length R) :: F) w ∧ f 1 = pQ b1 0 ∧ f 2 = .slice none 0 0 ∧ f 3 = .map (some m3) ∧ f 16 = .slice T d.length R ∧ f 17 = iN (d.length : Int) ∧ f 18 = iN l) ?_ ?_
     · refine cw_block <| cQ <| cR ?_
       have aV := (iS hm).1
       replace hm := (iS hm).2
       replace am := am.mono bf
       refine oI (i := l) sl31 ty42 br aP aV.1 aV.2 (SN42.some am (by have := aV; omega)) ?_
       obtain ⟨csu271, hru271, hnu271⟩ := (id am)
       obtain ⟨vsu271, hvu271, aG, aD, aF, aC, rfl, cn, cm⟩ := NL.at rl42.len hnu271 aV.1 aV.2
       refine oLR (p := l.toNat * 16) (vs := (rL10 (at' d l) aG aD aF aC)) (v := .agg (rL10 (at' d l) aG aD aF aC).toArray) hs hru271 rfl ty42 ((cells_part hvu271 0 16 (by decide)).trans rfl) rfl rfl <| ow_alloc hs ty42 rfl ?_
       clear hs; intro cw w hs
       refine oS (k := 0) (vs := (rL10 (at' d l) aG aD aF aC)) (cs' := (rL10 (at' d l) aG aD aF aC)) hs rfl rfl rfl ty42 rfl rfl (nLe rfl) rfl rfl ?_
       clear hs; intro w hs
       refine oN <| sQR <| cR <| oL (k := 0) (vs := (rL10 (at' d l) aG aD aF aC)) (v := .agg (rL10 (at' d l) aG aD aF aC).toArray) hs rfl rfl ty42 rfl rfl rfl ?_
       obtain ⟨ad, ch, hm⟩ := bS hm
       refine oC (fi := []) (vs := [.agg (rL10 (at' d l) aG aD aF aC).toArray]) (ca := []) rfl ⟨rfl, trivial⟩ en60 (f60_ok _ _ _ _ _ _ _ _ _ _ _ _ _ _ _ _ ch hs cn cm) ?_
       clear hs; rintro _ w ⟨cf, b5, b4, cb, hs, rfl, hRz284_0⟩
       refine oV (x_len sl24 rfl) rfl <| mI rfl <| oN <| sK <| cw_block ?_
       refine cL (S := fun k f ds w => ∃ (y : Int) (X : List (Int × Int)), ∃ (bv : Im), ds = [] ∧ Im.le cf bv ∧ f36_l1 ad k y X = some bk ∧ Sat bv (blk cw 42 (rL10 (at' d l) aG aD aF aC) :: mq m3 vi64 X :: blk b1 33 (cL8 al ak x T d.length R) :: F) w ∧ f 1 = pQ b1 0 ∧ f 2 = .slice none 0 0 ∧ f 3 = .map (some m3) ∧ f 16 = .slice T d.length R ∧ f 17 = iN (d.length : Int) ∧ f 18 = iN l ∧ f 23 = .slice b5 ad.length b4 ∧ f 24 = iN (ad.length : Int) ∧ f 25 = iN y) ?_ (k := FUEL) ⟨0, ah, cf, rfl, iR, hm, hs, bM, bK, bI, br, bp, aP, rfl, rfl, rfl⟩
       clear hm hs
       rintro k f ds w ⟨y, X, bv, rfl, be, hm, hs, bL, bJ, ba, bq, bo, bn, bm, bl, aO⟩
       rcases k with _ | k
       · unfold f36_l1 at hm; cases hm
       unfold f36_l1 at hm
       refine cQ <| cR <| oV (x_lss aO bl) rfl <| oN <| sQR ?_
       by_cases bi : y < (ad.length : Int)
       · rw [if_pos bi] at hm
         refine cIt rfl (dT bi) <| cw_skip <| sQR <| cw_block <| cQ <| cR ?_
         have aU := (iS hm).1
         replace hm := (iS hm).2
         replace hRz284_0 := hRz284_0.mono be
         refine oI (i := y) sl24 ty3 bm aO aU.1 aU.2 (Rs.some hRz284_0 (by have := aU; omega)) <| oLR (p := y.toNat * 1) (vs := [iN (at' ad y)]) (v := iN (at' ad y)) hs hRz284_0 rfl ty3 (flat_at (enc := e64) (sz := 1) (fun _ => rfl) ad y aU.1 aU.2 0 1 (by decide)) rfl rfl <| asI rfl <| oN <| sK <| cR <| oV (xM (v := .map (some m3)) ba) rfl <| mI rfl <| ow_lookupQ (q := 1) (k := (at' ad y)) (zv := 0) (v := iN (getM X (at' ad y) 0)) mt143 mz143 hs rfl rfl rfl rfl <| oV (x_add rfl rfl) rfl <| ow_updQ (q := 1) (k := (at' ad y)) (v := (w64 ((getM X (at' ad y) 0) + 1))) mt143 hs rfl rfl rfl rfl ?_
         clear hs; intro w hs
         refine oN <| blockK_n <| sK <| cR <| oV (x_add aO rfl) rfl <| mI rfl <| oN ?_
         exact lN ⟨k, Nat.lt_succ_self k, w64 (y + 1), upM X (at' ad y) (w64 ((getM X (at' ad y) 0) + 1)), bv, rfl, be, hm, hs, bL, bJ, ba, bq, bo, bn, bm, bl, rfl⟩
       rw [if_neg bi] at hm
       refine cIf rfl (dF bi) <| cw_exit <| seqK_x <| loopK_x <| blockK_hit <| blockK_n ?_
       replace hs := hs.erase 0
       obtain rfl := oJ hm
       refine jN ⟨bv, rfl, (cb.trans be), hs, bL, bJ, ba, bq, bo, bn⟩
     clear hm hs
     rintro f ds w ⟨bT, rfl, b9, hs, b2, bY, bV, bD, bC, bB⟩
     replace hm := cj
     refine cR <| oV (x_add bB rfl) rfl <| mI rfl <| oN ?_
     exact lN ⟨k, Nat.lt_succ_self k, w64 (l + 1), bk, bT, rfl, (bf.trans b9), hm, hs, b2, bY, bV, bD, bC, rfl⟩
   rw [if_neg bj] at hm
   refine cIf rfl (dF bj) <| cw_exit <| seqK_x <| loopK_x <| blockK_hit ?_
   obtain rfl := oJ hm
   refine jN ⟨bw, rfl, bf, hs, bM, bK, bI⟩
 clear hm hs
 rintro f ds w ⟨aW, rfl, bO, hs, a4, bZ, bW⟩
 replace hm := ck
 refine cQ <| cR <| asS rfl <| oN <| sQR <| cR <| ow_makeMapQ (V := Int) (vv := vi64) mt143 hs ?_
 clear hs; intro ar w hs
 refine oV (xA (v := .map (some ar)) rfl) rfl <| oN <| sK ?_
 replace hs := hs.pushNil 152 19
 have co : NN152 aW ([] : List (T3x)) [] := NL.nil
 obtain ⟨aq, bs, ci⟩ := bS hm
 replace hm := bs; clear bs
 refine cJ (fun f ds w => ∃ (A : Option Addr) (z : Nat) (B : List Value) (bR : Im), ds = [] ∧ Im.le aW bR ∧ Sat bR (osl 152 19 A aq.1.length z B :: mq ar vi64 aq.2 :: mq m3 vi64 ai :: blk b1 33 (cL8 al ak x T d.length R) :: F) w ∧ f 2 = .slice none 0 0 ∧ f 8 = .slice A aq.1.length z ∧ NN152 bR aq.1 B) ?_ ?_
 · refine cQ <| cR <| oF (b := b1) (o := 0) fl33_3 a4 <| ld1 (k := 3) hs rfl rfl ty31 rfl <| oV (x_len sl31 rfl) rfl <| mI rfl <| oN <| sK <| cw_block ?_
   refine cL (S := fun k f ds w => ∃ (c : Int) (e : List (T3x)) (D : List (Int × Int)), ∃ (A : Option Addr) (z : Nat) (B : List Value) (aH : Im), ds = [] ∧ Im.le aW aH ∧ f36_l2 x d ai k c e D = some aq ∧ Sat aH (osl 152 19 A e.length z B :: mq ar vi64 D :: mq m3 vi64 ai :: blk b1 33 (cL8 al ak x T d.length R) :: F) w ∧ f 1 = pQ b1 0 ∧ f 2 = .slice none 0 0 ∧ f 3 = .map (some m3) ∧ f 8 = .slice A e.length z ∧ f 9 = .map (some ar) ∧ f 37 = .slice T d.length R ∧ f 38 = iN (d.length : Int) ∧ f 39 = iN c ∧ NN152 aH e B) ?_ (k := FUEL) ⟨0, ([] : List (T3x)), ([] : List (Int × Int)), none, 0, [], aW, rfl, iR, hm, hs, a4, bZ, bW, rfl, rfl, rfl, rfl, rfl, co⟩
   clear hm hs
   rintro k f ds w ⟨c, e, D, A, z, B, aH, rfl, bd, hm, hs, aI, bb, bH, a9, bG, aN, aL, an, ae⟩
   rcases k with _ | k
   · unfold f36_l2 at hm; cases hm
   unfold f36_l2 at hm
   refine cQ <| cR <| oV (x_lss an aL) rfl <| oN <| sQR ?_
   by_cases bh : c < (d.length : Int)
   · rw [if_pos bh] at hm
     refine cIt rfl (dT bh) <| cw_skip <| sQR <| cw_block <| cQ <| cR <| mI an ?_
     have aT := (iS hm).1
     replace hm := (iS hm).2
     replace am := am.mono (bO.trans bd)
     refine oI (i := c) sl31 ty42 aN an aT.1 aT.2 (SN42.some am (by have := aT; omega)) ?_
     obtain ⟨csu633, hru633, hnu633⟩ := (id am)
     obtain ⟨vsu633, hvu633, N, K, M, H, rfl, aA, az⟩ := NL.at rl42.len hnu633 aT.1 aT.2
     refine oLR (p := c.toNat * 16) (vs := (rL10 (at' d c) N K M H)) (v := .agg (rL10 (at' d c) N K M H).toArray) hs hru633 rfl ty42 ((cells_part hvu633 0 16 (by decide)).trans rfl) rfl rfl <| ow_alloc hs ty42 rfl ?_
     clear hs; intro aE w hs
     refine asI rfl <| oS (k := 0) (vs := (rL10 (at' d c) N K M H)) (cs' := (rL10 (at' d c) N K M H)) hs rfl rfl rfl ty42 rfl rfl (nLe rfl) rfl rfl ?_
     clear hs; intro w hs
     refine oN <| sQR <| cR <| oF (b := b1) (o := 0) fl33_2 aI <| ld1 (k := 4) hs rfl rfl ty3 rfl <| mI rfl <| oV (x_add rfl rfl) rfl <| asI rfl <| oN <| sQR ?_
     refine cQ <| cR <| oF (b := aE) (o := 0) fl42_0 rfl <| ld1 (k := 0) hs rfl rfl ty5 rfl <| oV (x_eql rfl rfl) rfl <| mB rfl ?_
     obtain ⟨bQ, ax, hm⟩ := bS hm
     refine oJN 6 (fun f ds w => ∃ (a7 : Im), ds = [] ∧ Im.le aH a7 ∧ Sat a7 (blk aE 42 (rL10 (at' d c) N K M H) :: osl 152 19 A e.length z B :: mq ar vi64 D :: mq m3 vi64 ai :: blk b1 33 (cL8 al ak x T d.length R) :: F) w ∧ f 57 = .bool bQ ∧ f 1 = pQ b1 0 ∧ f 2 = .slice none 0 0 ∧ f 3 = .map (some m3) ∧ f 8 = .slice A e.length z ∧ f 9 = .map (some ar) ∧ f 11 = pQ aE 0 ∧ f 12 = iN (w64 (x + c)) ∧ f 37 = .slice T d.length R ∧ f 38 = iN (d.length : Int) ∧ f 39 = iN c) ?_ ?_
     · by_cases ag : ((at' d c).1) = 1
       · rw [if_pos ag] at ax
         refine oG (yO rfl rfl (dT ag)) <| oF (b := aE) (o := 0) fl42_1 rfl <| oG (yO rfl rfl (dT ag)) <| ld1 (k := 0) hs rfl rfl ty3 rfl <| oG (yO rfl rfl (dT ag)) <| oF (b := b1) (o := 0) fl33_2 aI <| oG (yO rfl rfl (dT ag)) <| ld1 (k := 4) hs rfl rfl ty3 rfl <| oG (yO rfl rfl (dT ag)) <| oV (x_geq rfl rfl) rfl <| oV (xPt (v := .bool (decide (x ≤ ((at' d c).2.1)))) ((rfl : ev _ _ _ = _).trans (congrArg Value.bool (dT ag))) rfl) rfl <| oN ?_
         obtain rfl := oJ ax
         exact ⟨aH, rfl, iR, hs, rfl, aI, bb, bH, a9, bG, rfl, rfl, aN, aL, an⟩
       rw [if_neg ag] at ax
       refine oO (b := false) (yO rfl rfl (dF ag)) rfl <| oO (b := false) (yO rfl rfl (dF ag)) rfl <| oO (b := false) (yO rfl rfl (dF ag)) rfl <| oO (b := false) (yO rfl rfl (dF ag)) rfl <| oO (b := false) (yO rfl rfl (dF ag)) rfl <| oV (xPf (v := .bool false) ((rfl : ev _ _ _ = _).trans (congrArg Value.bool (dF ag))) rfl) rfl <| oN ?_
       obtain rfl := oJ ax
       exact ⟨aH, rfl, iR, hs, rfl, aI, bb, bH, a9, bG, rfl, rfl, aN, aL, an⟩
     clear ax hs
     rintro f ds w ⟨a7, rfl, ap, hs, htbb642, a5, a3, ay, a2, aZ, au, aR, aM, aK, aJ⟩
     refine mB htbb642 ?_
     obtain ⟨bP, aw, hm⟩ := bS hm
     refine oJN 6 (fun f ds w => ∃ (bu : Im), ds = [] ∧ Im.le a7 bu ∧ Sat bu (blk aE 42 (rL10 (at' d c) N K M H) :: osl 152 19 A e.length z B :: mq ar vi64 D :: mq m3 vi64 ai :: blk b1 33 (cL8 al ak x T d.length R) :: F) w ∧ f 64 = .bool bP ∧ f 1 = pQ b1 0 ∧ f 2 = .slice none 0 0 ∧ f 3 = .map (some m3) ∧ f 8 = .slice A e.length z ∧ f 9 = .map (some ar) ∧ f 11 = pQ aE 0 ∧ f 12 = iN (w64 (x + c)) ∧ f 37 = .slice T d.length R ∧ f 38 = iN (d.length : Int) ∧ f 39 = iN c) ?_ ?_
     · by_cases af : bQ = true
       · rw [if_pos af] at aw
         refine oG (yO rfl rfl af) <| oV (xM (v := .map (some m3)) ay) rfl <| oG (yO rfl rfl af) <| oF (b := aE) (o := 0) fl42_1 au <| oG (yO rfl rfl af) <| ld1 (k := 0) hs rfl rfl ty3 rfl <| oG (yO rfl rfl af) <| ow_lookupQ (q := 3) (k := ((at' d c).2.1)) (zv := 0) (v := iN (getM ai ((at' d c).2.1) 0)) mt143 mz143 hs rfl rfl rfl rfl <| oG (yO rfl rfl af) <| oV (x_eql rfl rfl) rfl <| oV (xPt (v := .bool (decide ((getM ai ((at' d c).2.1) 0) = 1))) ((rfl : ev _ _ _ = _).trans (congrArg Value.bool af)) rfl) rfl <| oN ?_
         obtain rfl := oJ aw
         exact ⟨a7, rfl, iR, hs, rfl, a5, a3, ay, a2, aZ, au, aR, aM, aK, aJ⟩
       rw [if_neg af] at aw
       refine oO (b := false) (yO rfl rfl (bF af)) rfl <| oO (b := false) (yO rfl rfl (bF af)) rfl <| oO (b := false) (yO rfl rfl (bF af)) rfl <| oO (b := false) (yO rfl rfl (bF af)) rfl <| oO (b := false) (yO rfl rfl (bF af)) rfl <| oV (xPf (v := .bool false) ((rfl : ev _ _ _ = _).trans (congrArg Value.bool (bF af))) rfl) rfl <| oN ?_
       obtain rfl := oJ aw
       exact ⟨a7, rfl, iR, hs, rfl, a5, a3, ay, a2, aZ, au, aR, aM, aK, aJ⟩
     clear aw hs
     rintro f ds w ⟨bu, rfl, ao, hs, htbb646, b3, b0, bX, a1, aY, aS, aQ, bA, bz, bx⟩
     refine oN <| sK ?_
     by_cases bg : bP = true
     · rw [if_pos bg] at hm
       refine cIt htbb646 bg <| cQ ?_
       cases hm
     rw [if_neg bg] at hm
     refine cIf htbb646 (bF bg) <| cw_skip <| sQR <| cR <| oV (xM (v := .map (some ar)) aY) rfl <| mI aQ <| mS a1 <| oV (x_len sl147 rfl) rfl <| ow_updQ (q := 2) (k := (w64 (x + c))) (v := (e.length : Int)) mt143 hs rfl rfl rfl rfl ?_
     clear hs; intro w hs
     refine oN <| sK ?_
     obtain ⟨G, cg, hm⟩ := bS hm
     have cl := (iS hm).1
     replace hm := (iS hm).2
     refine cD mixed rfl (fun f0 L f w => ∃ (s : Option Addr) (m : Nat) (Z : Option Addr) (Q : Option Addr) (O : Nat) (Iq : Im), Im.le bu Iq ∧ f = frL [(97, 0, .slice A e.length z), (98, 1, .agg (rL10 (at' d c) N K M H).toArray), (99, 2, .agg (rL10 (at' d c) N K M H).toArray), (100, 3, .slice s G.length m), (101, 4, iN (w64 (x + c))), (102, 5, .agg (cL11 ((at' d c).1) ((at' d c).2.1) ((at' d c).2.2.1) ((at' d c).2.2.2.1) ((at' d c).2.2.2.2.1) ((at' d c).2.2.2.2.2.1) ((at' d c).2.2.2.2.2.2.1) ((at' d c).2.2.2.2.2.2.2.1) ((at' d c).2.2.2.2.2.2.2.2.1) ((at' d c).2.2.2.2.2.2.2.2.2.1) ((at' d c).2.2.2.2.2.2.2.2.2.2.1) N (((at' d c).2.2.2.2.2.2.2.2.2.2.2.1).length) K ((at' d c).2.2.2.2.2.2.2.2.2.2.2.2.1) ((at' d c).2.2.2.2.2.2.2.2.2.2.2.2.2.1) ((at' d c).2.2.2.2.2.2.2.2.2.2.2.2.2.2.1) M (((at' d c).2.2.2.2.2.2.2.2.2.2.2.2.2.2.2).length) H none 0 0 s G.length m (w64 (x + c))).toArray), (103, 6, .slice Z 1 1), (104, 7, .slice Q ((e ++ ([((at' d c).1, (at' d c).2.1, (at' d c).2.2.1, (at' d c).2.2.2.1, (at' d c).2.2.2.2.1, (at' d c).2.2.2.2.2.1, (at' d c).2.2.2.2.2.2.1, (at' d c).2.2.2.2.2.2.2.1, (at' d c).2.2.2.2.2.2.2.2.1, (at' d c).2.2.2.2.2.2.2.2.2.1, (at' d c).2.2.2.2.2.2.2.2.2.2.1, (at' d c).2.2.2.2.2.2.2.2.2.2.2.1, (at' d c).2.2.2.2.2.2.2.2.2.2.2.2.1, (at' d c).2.2.2.2.2.2.2.2.2.2.2.2.2.1, (at' d c).2.2.2.2.2.2.2.2.2.2.2.2.2.2.1, (at' d c).2.2.2.2.2.2.2.2.2.2.2.2.2.2.2, ([] : List (T1x)), G, w64 (x + c))] : List (T3x))).length) O), (8, 8, .slice Q ((e ++ ([((at' d c).1, (at' d c).2.1, (at' d c).2.2.1, (at' d c).2.2.2.1, (at' d c).2.2.2.2.1, (at' d c).2.2.2.2.2.1, (at' d c).2.2.2.2.2.2.1, (at' d c).2.2.2.2.2.2.2.1, (at' d c).2.2.2.2.2.2.2.2.1, (at' d c).2.2.2.2.2.2.2.2.2.1, (at' d c).2.2.2.2.2.2.2.2.2.2.1, (at' d c).2.2.2.2.2.2.2.2.2.2.2.1, (at' d c).2.2.2.2.2.2.2.2.2.2.2.2.1, (at' d c).2.2.2.2.2.2.2.2.2.2.2.2.2.1, (at' d c).2.2.2.2.2.2.2.2.2.2.2.2.2.2.1, (at' d c).2.2.2.2.2.2.2.2.2.2.2.2.2.2.2, ([] : List (T1x)), G, w64 (x + c))] : List (T3x))).length) O)] L f0 ∧ Sat Iq (blk aE 42 (rL10 (at' d c) N K M H) :: rL [(7, osl 152 19 Q (e ++ ([((at' d c).1, (at' d c).2.1, (at' d c).2.2.1, (at' d c).2.2.2.1, (at' d c).2.2.2.2.1, (at' d c).2.2.2.2.2.1, (at' d c).2.2.2.2.2.2.1, (at' d c).2.2.2.2.2.2.2.1, (at' d c).2.2.2.2.2.2.2.2.1, (at' d c).2.2.2.2.2.2.2.2.2.1, (at' d c).2.2.2.2.2.2.2.2.2.2.1, (at' d c).2.2.2.2.2.2.2.2.2.2.2.1, (at' d c).2.2.2.2.2.2.2.2.2.2.2.2.1, (at' d c).2.2.2.2.2.2.2.2.2.2.2.2.2.1, (at' d c).2.2.2.2.2.2.2.2.2.2.2.2.2.2.1, (at' d c).2.2.2.2.2.2.2.2.2.2.2.2.2.2.2, ([] : List (T1x)), G, w64 (x + c))] : List (T3x))).length O (B ++ ((cL11 ((at' d c).1) ((at' d c).2.1) ((at' d c).2.2.1) ((at' d c).2.2.2.1) ((at' d c).2.2.2.2.1) ((at' d c).2.2.2.2.2.1) ((at' d c).2.2.2.2.2.2.1) ((at' d c).2.2.2.2.2.2.2.1) ((at' d c).2.2.2.2.2.2.2.2.1) ((at' d c).2.2.2.2.2.2.2.2.2.1) ((at' d c).2.2.2.2.2.2.2.2.2.2.1) N (((at' d c).2.2.2.2.2.2.2.2.2.2.2.1).length) K ((at' d c).2.2.2.2.2.2.2.2.2.2.2.2.1) ((at' d c).2.2.2.2.2.2.2.2.2.2.2.2.2.1) ((at' d c).2.2.2.2.2.2.2.2.2.2.2.2.2.2.1) M (((at' d c).2.2.2.2.2.2.2.2.2.2.2.2.2.2.2).length) H none 0 0 s G.length m (w64 (x + c))) : List Value)))] (osl 152 19 A e.length z B) L :: mq ar vi64 (upM D (w64 (x + c)) (e.length : Int)) :: mq m3 vi64 ai :: blk b1 33 (cL8 al ak x T d.length R) :: F) w ∧ (L 3 = true → Rs Iq 1 s G.length m (G.flatMap e64)) ∧ (L 6 = true → Rs Iq 19 Z 1 1 (cL11 ((at' d c).1) ((at' d c).2.1) ((at' d c).2.2.1) ((at' d c).2.2.2.1) ((at' d c).2.2.2.2.1) ((at' d c).2.2.2.2.2.1) ((at' d c).2.2.2.2.2.2.1) ((at' d c).2.2.2.2.2.2.2.1) ((at' d c).2.2.2.2.2.2.2.2.1) ((at' d c).2.2.2.2.2.2.2.2.2.1) ((at' d c).2.2.2.2.2.2.2.2.2.2.1) N (((at' d c).2.2.2.2.2.2.2.2.2.2.2.1).length) K ((at' d c).2.2.2.2.2.2.2.2.2.2.2.2.1) ((at' d c).2.2.2.2.2.2.2.2.2.2.2.2.2.1) ((at' d c).2.2.2.2.2.2.2.2.2.2.2.2.2.2.1) M (((at' d c).2.2.2.2.2.2.2.2.2.2.2.2.2.2.2).length) H none 0 0 s G.length m (w64 (x + c)))) ∧ (L 7 = true → NN152 Iq (e ++ ([((at' d c).1, (at' d c).2.1, (at' d c).2.2.1, (at' d c).2.2.2.1, (at' d c).2.2.2.2.1, (at' d c).2.2.2.2.2.1, (at' d c).2.2.2.2.2.2.1, (at' d c).2.2.2.2.2.2.2.1, (at' d c).2.2.2.2.2.2.2.2.1, (at' d c).2.2.2.2.2.2.2.2.2.1, (at' d c).2.2.2.2.2.2.2.2.2.2.1, (at' d c).2.2.2.2.2.2.2.2.2.2.2.1, (at' d c).2.2.2.2.2.2.2.2.2.2.2.2.1, (at' d c).2.2.2.2.2.2.2.2.2.2.2.2.2.1, (at' d c).2.2.2.2.2.2.2.2.2.2.2.2.2.2.1, (at' d c).2.2.2.2.2.2.2.2.2.2.2.2.2.2.2, ([] : List (T1x)), G, w64 (x + c))] : List (T3x))) (B ++ ((cL11 ((at' d c).1) ((at' d c).2.1) ((at' d c).2.2.1) ((at' d c).2.2.2.1) ((at' d c).2.2.2.2.1) ((at' d c).2.2.2.2.2.1) ((at' d c).2.2.2.2.2.2.1) ((at' d c).2.2.2.2.2.2.2.1) ((at' d c).2.2.2.2.2.2.2.2.1) ((at' d c).2.2.2.2.2.2.2.2.2.1) ((at' d c).2.2.2.2.2.2.2.2.2.2.1) N (((at' d c).2.2.2.2.2.2.2.2.2.2.2.1).length) K ((at' d c).2.2.2.2.2.2.2.2.2.2.2.2.1) ((at' d c).2.2.2.2.2.2.2.2.2.2.2.2.2.1) ((at' d c).2.2.2.2.2.2.2.2.2.2.2.2.2.2.1) M (((at' d c).2.2.2.2.2.2.2.2.2.2.2.2.2.2.2).length) H none 0 0 s G.length m (w64 (x + c))) : List Value))) ∧ (L 8 = true → L 0 = true) ∧ (L 7 = true → L 3 = true) ∧ (L 5 = true → L 3 = true) ∧ (L 6 = true → L 3 = true) ∧ (L 8 = true → L 7 = true)) ⟨none, 0, none, none, 0, bu, iR, (frL_ff _).symm, hs.drew, (fun h => by cases h), (fun h => by cases h), (fun h => by cases h), (fun h => by cases h), (fun h => by cases h), (fun h => by cases h), (fun h => by cases h), (fun h => by cases h)⟩ ⟨?_, ?_, ?_, ?_, ?_, ?_, ?_, ?_, ?_, trivial⟩ ?_
     all_goals clear hs
     · rintro L f w _ hL ⟨s, m, Z, Q, O, Iq, Y, rfl, hs, t, C, E, ab, U, W, ac, aa⟩
       refine mS ((frL_old (j := 8) rfl (show L 8 = false from pF ab hL)).trans a1) ?_
       exact oN ⟨rfl, rfl, s, m, Z, Q, O, Iq, Y, fS rfl rfl, hs, (fun h => t h), (fun h => C h), (fun h => E h), (fun _ => rfl), U, W, ac, aa⟩
     · rintro L f w _ hL ⟨s, m, Z, Q, O, Iq, Y, rfl, hs, t, C, E, ab, U, W, ac, aa⟩
       refine oL (k := 0) (vs := (rL10 (at' d c) N K M H)) (v := .agg (rL10 (at' d c) N K M H).toArray) hs rfl aS ty42 rfl rfl rfl ?_
       exact oN ⟨rfl, rfl, s, m, Z, Q, O, Iq, Y, fS rfl rfl, hs, (fun h => t h), (fun h => C h), (fun h => E h), ab, U, W, ac, aa⟩
     · rintro L f w _ hL ⟨s, m, Z, Q, O, Iq, Y, rfl, hs, t, C, E, ab, U, W, ac, aa⟩
       refine oL (k := 0) (vs := (rL10 (at' d c) N K M H)) (v := .agg (rL10 (at' d c) N K M H).toArray) hs rfl aS ty42 rfl rfl rfl ?_
       exact oN ⟨rfl, rfl, s, m, Z, Q, O, Iq, Y, fS rfl rfl, hs, (fun h => t h), (fun h => C h), (fun h => E h), ab, U, W, ac, aa⟩
     · rintro L f w ⟨cu, _⟩ hL ⟨s, m, Z, Q, O, Iq, Y, rfl, hs, t, C, E, ab, U, W, ac, aa⟩
       replace hs := hs.eqv (k := 1) rfl ((rL_f (show L 7 = false from pF U hL) (rfl)))
       replace aA := aA.mono ((ap.trans ao).trans Y); replace az := az.mono ((ap.trans ao).trans Y)
       refine oC (fi := []) (vs := [.agg (rL10 (at' d c) N K M H).toArray]) (ca := []) rfl ⟨(fG rfl cu), trivial⟩ en60 (f60_ok _ _ _ _ _ _ _ _ _ _ _ _ _ _ _ _ cg hs aA az) ?_
       clear hs; rintro _ w ⟨cy, s, m, b8, hs, rfl, hRz655_0⟩
       replace hs := hs.eqv (k := 1) rfl (Eq.symm (a := rL [(7, osl 152 19 Q (e ++ ([((at' d c).1, (at' d c).2.1, (at' d c).2.2.1, (at' d c).2.2.2.1, (at' d c).2.2.2.2.1, (at' d c).2.2.2.2.2.1, (at' d c).2.2.2.2.2.2.1, (at' d c).2.2.2.2.2.2.2.1, (at' d c).2.2.2.2.2.2.2.2.1, (at' d c).2.2.2.2.2.2.2.2.2.1, (at' d c).2.2.2.2.2.2.2.2.2.2.1, (at' d c).2.2.2.2.2.2.2.2.2.2.2.1, (at' d c).2.2.2.2.2.2.2.2.2.2.2.2.1, (at' d c).2.2.2.2.2.2.2.2.2.2.2.2.2.1, (at' d c).2.2.2.2.2.2.2.2.2.2.2.2.2.2.1, (at' d c).2.2.2.2.2.2.2.2.2.2.2.2.2.2.2, ([] : List (T1x)), G, w64 (x + c))] : List (T3x))).length O (B ++ ((cL11 ((at' d c).1) ((at' d c).2.1) ((at' d c).2.2.1) ((at' d c).2.2.2.1) ((at' d c).2.2.2.2.1) ((at' d c).2.2.2.2.2.1) ((at' d c).2.2.2.2.2.2.1) ((at' d c).2.2.2.2.2.2.2.1) ((at' d c).2.2.2.2.2.2.2.2.1) ((at' d c).2.2.2.2.2.2.2.2.2.1) ((at' d c).2.2.2.2.2.2.2.2.2.2.1) N (((at' d c).2.2.2.2.2.2.2.2.2.2.2.1).length) K ((at' d c).2.2.2.2.2.2.2.2.2.2.2.2.1) ((at' d c).2.2.2.2.2.2.2.2.2.2.2.2.2.1) ((at' d c).2.2.2.2.2.2.2.2.2.2.2.2.2.2.1) M (((at' d c).2.2.2.2.2.2.2.2.2.2.2.2.2.2.2).length) H none 0 0 s G.length m (w64 (x + c))) : List Value)))] (osl 152 19 A e.length z B) (setL L 3)) (((rL_f (L := setL L 3) (show L 7 = false from pF U hL) (rfl)))))
       exact oN ⟨rfl, rfl, s, m, Z, Q, O, cy, (Y.trans b8), (Eq.trans (fSG (i := 3) rfl rfl) (Eq.trans (fD (u := undef) (i := 5) (v := .agg (cL11 ((at' d c).1) ((at' d c).2.1) ((at' d c).2.2.1) ((at' d c).2.2.2.1) ((at' d c).2.2.2.2.1) ((at' d c).2.2.2.2.2.1) ((at' d c).2.2.2.2.2.2.1) ((at' d c).2.2.2.2.2.2.2.1) ((at' d c).2.2.2.2.2.2.2.2.1) ((at' d c).2.2.2.2.2.2.2.2.2.1) ((at' d c).2.2.2.2.2.2.2.2.2.2.1) N (((at' d c).2.2.2.2.2.2.2.2.2.2.2.1).length) K ((at' d c).2.2.2.2.2.2.2.2.2.2.2.2.1) ((at' d c).2.2.2.2.2.2.2.2.2.2.2.2.2.1) ((at' d c).2.2.2.2.2.2.2.2.2.2.2.2.2.2.1) M (((at' d c).2.2.2.2.2.2.2.2.2.2.2.2.2.2.2).length) H none 0 0 s G.length m (w64 (x + c))).toArray) (L := setL L 3) (show L 5 = false from pF W hL)) (rfl))), hs, (fun _ => hRz655_0), (fun h => vac (i := 3) (j := 6) (show L 6 = false from pF ac hL) rfl h), (fun h => vac (i := 3) (j := 7) (show L 7 = false from pF U hL) rfl h), ab, (fun _ => rfl), (fun _ => rfl), (fun _ => rfl), aa⟩
     · rintro L f w _ hL ⟨s, m, Z, Q, O, Iq, Y, rfl, hs, t, C, E, ab, U, W, ac, aa⟩
       refine mI aQ ?_
       exact oN ⟨rfl, rfl, s, m, Z, Q, O, Iq, Y, fS rfl rfl, hs, (fun h => t h), (fun h => C h), (fun h => E h), ab, U, W, ac, aa⟩
     · rintro L f w ⟨cv, bt, ct, _⟩ hL ⟨s, m, Z, Q, O, Iq, Y, rfl, hs, t, C, E, ab, U, W, ac, aa⟩
       have hRz655_0 := t bt
       refine oU (vp := [(0, .agg (rL10 (at' d c) N K M H).toArray), (2, .slice s G.length m), (3, iN (w64 (x + c)))]) (cs := (cL11 ((at' d c).1) ((at' d c).2.1) ((at' d c).2.2.1) ((at' d c).2.2.2.1) ((at' d c).2.2.2.2.1) ((at' d c).2.2.2.2.2.1) ((at' d c).2.2.2.2.2.2.1) ((at' d c).2.2.2.2.2.2.2.1) ((at' d c).2.2.2.2.2.2.2.2.1) ((at' d c).2.2.2.2.2.2.2.2.2.1) ((at' d c).2.2.2.2.2.2.2.2.2.2.1) N (((at' d c).2.2.2.2.2.2.2.2.2.2.2.1).length) K ((at' d c).2.2.2.2.2.2.2.2.2.2.2.2.1) ((at' d c).2.2.2.2.2.2.2.2.2.2.2.2.2.1) ((at' d c).2.2.2.2.2.2.2.2.2.2.2.2.2.2.1) M (((at' d c).2.2.2.2.2.2.2.2.2.2.2.2.2.2.2).length) H none 0 0 s G.length m (w64 (x + c)))) st152 ty152 ⟨rfl, (fG rfl cv), rfl, (fG rfl bt), rfl, (fG rfl ct), trivial⟩ rfl ?_
       exact oN ⟨rfl, rfl, s, m, Z, Q, O, Iq, Y, fS rfl rfl, hs, (fun h => t h), (fun h => C h), (fun h => E h), ab, U, (fun _ => bt), ac, aa⟩
     · rintro L f w ⟨cd, _⟩ hL ⟨s, m, Z, Q, O, Iq, Y, rfl, hs, t, C, E, ab, U, W, ac, aa⟩
       have hRz655_0 := t (W cd)
       refine ow_buildSlice (vp := [(0, .agg (cL11 ((at' d c).1) ((at' d c).2.1) ((at' d c).2.2.1) ((at' d c).2.2.2.1) ((at' d c).2.2.2.2.1) ((at' d c).2.2.2.2.2.1) ((at' d c).2.2.2.2.2.2.1) ((at' d c).2.2.2.2.2.2.2.1) ((at' d c).2.2.2.2.2.2.2.2.1) ((at' d c).2.2.2.2.2.2.2.2.2.1) ((at' d c).2.2.2.2.2.2.2.2.2.2.1) N (((at' d c).2.2.2.2.2.2.2.2.2.2.2.1).length) K ((at' d c).2.2.2.2.2.2.2.2.2.2.2.2.1) ((at' d c).2.2.2.2.2.2.2.2.2.2.2.2.2.1) ((at' d c).2.2.2.2.2.2.2.2.2.2.2.2.2.2.1) M (((at' d c).2.2.2.2.2.2.2.2.2.2.2.2.2.2.2).length) H none 0 0 s G.length m (w64 (x + c))).toArray)]) (cs := (cL11 ((at' d c).1) ((at' d c).2.1) ((at' d c).2.2.1) ((at' d c).2.2.2.1) ((at' d c).2.2.2.2.1) ((at' d c).2.2.2.2.2.1) ((at' d c).2.2.2.2.2.2.1) ((at' d c).2.2.2.2.2.2.2.1) ((at' d c).2.2.2.2.2.2.2.2.1) ((at' d c).2.2.2.2.2.2.2.2.2.1) ((at' d c).2.2.2.2.2.2.2.2.2.2.1) N (((at' d c).2.2.2.2.2.2.2.2.2.2.2.1).length) K ((at' d c).2.2.2.2.2.2.2.2.2.2.2.2.1) ((at' d c).2.2.2.2.2.2.2.2.2.2.2.2.2.1) ((at' d c).2.2.2.2.2.2.2.2.2.2.2.2.2.2.1) M (((at' d c).2.2.2.2.2.2.2.2.2.2.2.2.2.2.2).length) H none 0 0 s G.length m (w64 (x + c)))) hs sl147 ty152 rfl ⟨rfl, (fG rfl cd), trivial⟩ (by decide) rfl (by decide) ?_
       clear hs; intro Z cx w bc hs av
       exact oN ⟨rfl, rfl, s, m, Z, Q, O, cx, (Y.trans bc), (Eq.trans (fSG (i := 6) rfl rfl) (rfl)), hs, (fun h => (t h).mono bc), (fun _ => av), (fun h => (E h).mono bc), ab, U, W, (fun _ => (W cd)), aa⟩
     · rintro L f w ⟨cq, cc, bt, _⟩ hL ⟨s, m, Z, Q, O, Iq, Y, rfl, hs, t, C, E, ab, U, W, ac, aa⟩
       have hRz655_0 := t bt
       have av := C cc
       replace hs := hs.eqv (k := 1) rfl ((rL_f hL (rL_n)))
       refine ow_appendG (k := 1) (mm := (e ++ ([((at' d c).1, (at' d c).2.1, (at' d c).2.2.1, (at' d c).2.2.2.1, (at' d c).2.2.2.2.1, (at' d c).2.2.2.2.2.1, (at' d c).2.2.2.2.2.2.1, (at' d c).2.2.2.2.2.2.2.1, (at' d c).2.2.2.2.2.2.2.2.1, (at' d c).2.2.2.2.2.2.2.2.2.1, (at' d c).2.2.2.2.2.2.2.2.2.2.1, (at' d c).2.2.2.2.2.2.2.2.2.2.2.1, (at' d c).2.2.2.2.2.2.2.2.2.2.2.2.1, (at' d c).2.2.2.2.2.2.2.2.2.2.2.2.2.1, (at' d c).2.2.2.2.2.2.2.2.2.2.2.2.2.2.1, (at' d c).2.2.2.2.2.2.2.2.2.2.2.2.2.2.2, ([] : List (T1x)), G, w64 (x + c))] : List (T3x))).length) hs rfl sl147 ty152 el152 rfl (fG rfl cq) (fG rfl cc) av rfl cl (by decide) List.length_append ?_
       clear hs; intro Q O w hs
       replace ae := ae.mono ((ap.trans ao).trans Y); replace aA := aA.mono ((ap.trans ao).trans Y); replace az := az.mono ((ap.trans ao).trans Y)
       have aB : NN152 Iq (e ++ ([((at' d c).1, (at' d c).2.1, (at' d c).2.2.1, (at' d c).2.2.2.1, (at' d c).2.2.2.2.1, (at' d c).2.2.2.2.2.1, (at' d c).2.2.2.2.2.2.1, (at' d c).2.2.2.2.2.2.2.1, (at' d c).2.2.2.2.2.2.2.2.1, (at' d c).2.2.2.2.2.2.2.2.2.1, (at' d c).2.2.2.2.2.2.2.2.2.2.1, (at' d c).2.2.2.2.2.2.2.2.2.2.2.1, (at' d c).2.2.2.2.2.2.2.2.2.2.2.2.1, (at' d c).2.2.2.2.2.2.2.2.2.2.2.2.2.1, (at' d c).2.2.2.2.2.2.2.2.2.2.2.2.2.2.1, (at' d c).2.2.2.2.2.2.2.2.2.2.2.2.2.2.2, ([] : List (T1x)), G, w64 (x + c))] : List (T3x))) (B ++ ((cL11 ((at' d c).1) ((at' d c).2.1) ((at' d c).2.2.1) ((at' d c).2.2.2.1) ((at' d c).2.2.2.2.1) ((at' d c).2.2.2.2.2.1) ((at' d c).2.2.2.2.2.2.1) ((at' d c).2.2.2.2.2.2.2.1) ((at' d c).2.2.2.2.2.2.2.2.1) ((at' d c).2.2.2.2.2.2.2.2.2.1) ((at' d c).2.2.2.2.2.2.2.2.2.2.1) N (((at' d c).2.2.2.2.2.2.2.2.2.2.2.1).length) K ((at' d c).2.2.2.2.2.2.2.2.2.2.2.2.1) ((at' d c).2.2.2.2.2.2.2.2.2.2.2.2.2.1) ((at' d c).2.2.2.2.2.2.2.2.2.2.2.2.2.2.1) M (((at' d c).2.2.2.2.2.2.2.2.2.2.2.2.2.2.2).length) H none 0 0 s G.length m (w64 (x + c))) : List Value)) := NL.append ae (NL.one ⟨N, K, M, H, none, 0, s, m, rfl, aA, az, (Rs.nil _ _ _), hRz655_0⟩)
       exact oN ⟨rfl, rfl, s, m, Z, Q, O, Iq, Y, (Eq.trans (fSG (i := 7) rfl rfl) (Eq.trans (fD (u := undef) (i := 8) (v := .slice Q ((e ++ ([((at' d c).1, (at' d c).2.1, (at' d c).2.2.1, (at' d c).2.2.2.1, (at' d c).2.2.2.2.1, (at' d c).2.2.2.2.2.1, (at' d c).2.2.2.2.2.2.1, (at' d c).2.2.2.2.2.2.2.1, (at' d c).2.2.2.2.2.2.2.2.1, (at' d c).2.2.2.2.2.2.2.2.2.1, (at' d c).2.2.2.2.2.2.2.2.2.2.1, (at' d c).2.2.2.2.2.2.2.2.2.2.2.1, (at' d c).2.2.2.2.2.2.2.2.2.2.2.2.1, (at' d c).2.2.2.2.2.2.2.2.2.2.2.2.2.1, (at' d c).2.2.2.2.2.2.2.2.2.2.2.2.2.2.1, (at' d c).2.2.2.2.2.2.2.2.2.2.2.2.2.2.2, ([] : List (T1x)), G, w64 (x + c))] : List (T3x))).length) O) (L := setL L 7) (show L 8 = false from pF aa hL)) (rfl))), hs, (fun h => t h), (fun h => C h), (fun _ => aB), ab, (fun _ => bt), W, ac, (fun _ => rfl)⟩
     · rintro L f w ⟨cp, _, cq, cv, cu, bt, ct, cd, cc, _, _⟩ hL ⟨s, m, Z, Q, O, Iq, Y, rfl, hs, t, C, E, ab, U, W, ac, aa⟩
       have hRz655_0 := t bt
       have av := C cc
       have aB := E cp
       refine asS (fG rfl cp) ?_
       exact oN ⟨rfl, rfl, s, m, Z, Q, O, Iq, Y, fS rfl rfl, hs, (fun h => t h), (fun h => C h), (fun h => E h), (fun _ => cq), U, W, ac, (fun _ => cp)⟩
     rintro L f w hall ⟨s, m, Z, Q, O, cz, b7, rfl, hs, hRz655_0, av, aB, _, _, _, _, _⟩
     rw [frL_tt _ rfl hall]
     replace hs := hs.eqv (k := 1) rfl (rL_t (hall 7 (nLe rfl)))
     replace hRz655_0 := hRz655_0 (hall 3 (nLe rfl))
     replace av := av (hall 6 (nLe rfl))
     replace aB := aB (hall 7 (nLe rfl))
     refine blockK_n <| sK <| cR <| oV (x_add bx rfl) rfl <| mI rfl <| oN ?_
     replace hs := hs.erase 0
     exact lN ⟨k, Nat.lt_succ_self k, w64 (c + 1), e ++ ([((at' d c).1, (at' d c).2.1, (at' d c).2.2.1, (at' d c).2.2.2.1, (at' d c).2.2.2.2.1, (at' d c).2.2.2.2.2.1, (at' d c).2.2.2.2.2.2.1, (at' d c).2.2.2.2.2.2.2.1, (at' d c).2.2.2.2.2.2.2.2.1, (at' d c).2.2.2.2.2.2.2.2.2.1, (at' d c).2.2.2.2.2.2.2.2.2.2.1, (at' d c).2.2.2.2.2.2.2.2.2.2.2.1, (at' d c).2.2.2.2.2.2.2.2.2.2.2.2.1, (at' d c).2.2.2.2.2.2.2.2.2.2.2.2.2.1, (at' d c).2.2.2.2.2.2.2.2.2.2.2.2.2.2.1, (at' d c).2.2.2.2.2.2.2.2.2.2.2.2.2.2.2, ([] : List (T1x)), G, w64 (x + c))] : List (T3x)), upM D (w64 (x + c)) (e.length : Int), Q, O, B ++ ((cL11 ((at' d c).1) ((at' d c).2.1) ((at' d c).2.2.1) ((at' d c).2.2.2.1) ((at' d c).2.2.2.2.1) ((at' d c).2.2.2.2.2.1) ((at' d c).2.2.2.2.2.2.1) ((at' d c).2.2.2.2.2.2.2.1) ((at' d c).2.2.2.2.2.2.2.2.1) ((at' d c).2.2.2.2.2.2.2.2.2.1) ((at' d c).2.2.2.2.2.2.2.2.2.2.1) N (((at' d c).2.2.2.2.2.2.2.2.2.2.2.1).length) K ((at' d c).2.2.2.2.2.2.2.2.2.2.2.2.1) ((at' d c).2.2.2.2.2.2.2.2.2.2.2.2.2.1) ((at' d c).2.2.2.2.2.2.2.2.2.2.2.2.2.2.1) M (((at' d c).2.2.2.2.2.2.2.2.2.2.2.2.2.2.2).length) H none 0 0 s G.length m (w64 (x + c))) : List Value), cz, rfl, (((bd.trans ap).trans ao).trans b7), hm, hs, b3, b0, bX, rfl, aY, bA, bz, rfl, aB⟩
   rw [if_neg bh] at hm
   refine cIf rfl (dF bh) <| cw_exit <| seqK_x <| loopK_x <| blockK_hit ?_
   obtain rfl := oJ hm
   refine jN ⟨A, z, B, aH, rfl, bd, hs, bb, a9, ae⟩
 clear hm hs
 rintro f ds w ⟨A, z, B, bR, rfl, b6, hs, cr, bU, aj⟩
 replace hm := ci
 refine cQ <| cR <| mS bU <| asS rfl <| oN <| sK <| cw_ret <| rK (rs := [.tmp 2]) (vs := [.slice A aq.1.length z]) (.inr rfl) rfl ⟨rfl, trivial⟩ ?_
 obtain rfl := oJ hm
 obtain ⟨ce, bN, bE, hs⟩ := hs.freezeO
 replace aj := aj.mono bN
 replace bE : SN152 ce A aq.1.length z aq.1 := ⟨_, bE, aj⟩
 replace hs := hs.erase 0
 replace hs := hs.erase 0
 replace hs := hs.erase 0
 exact ⟨ce, A, z, ((bO.trans b6).trans bN), hs, rfl, bE⟩
def f35_l1 (j : List (T3x)) (a : Int) : Nat → Int → (List (Int × Int)) → Option (List (Int × Int))
  | 0, _, _ => none
  | k + 1, c, d => (if c < (((at' j a).2.2.2.2.2.2.2.2.2.2.2.2.2.2.2.2.2.1).length : Int) then (if 0 ≤ c ∧ c < (((at' j a).2.2.2.2.2.2.2.2.2.2.2.2.2.2.2.2.2.1).length : Int) then (f35_l1 j a k (w64 (c + 1)) (upM d (at' ((at' j a).2.2.2.2.2.2.2.2.2.2.2.2.2.2.2.2.2.1) c) (w64 ((getM d (at' ((at' j a).2.2.2.2.2.2.2.2.2.2.2.2.2.2.2.2.2.1) c) 0) + 1)))) else none) else some d)
def f35_l0 (j : List (T3x)) : Nat → Int → (List (Int × Int)) → Option (List (Int × Int))
  | 0, _, _ => none
  | k + 1, a, e => (if a < (j.length : Int) then ((if 0 ≤ a ∧ a < (j.length : Int) then (f35_l1 j a FUEL 0 e) else none).bind fun (N : List (Int × Int)) => (f35_l0 j k (w64 (a + 1)) N)) else some e)
def f35_m (u : Int) (t : Int) (l : Int) (h : List (T2x)) (j : List (T3x)) : Option (List (Int × Int)) :=
  ((f35_l0 j FUEL 0 (upM ([] : List (Int × Int)) (w64 ((w64 (l + (h.length : Int))) - 1)) 1)).bind fun (aj : List (Int × Int)) => some aj)
theorem f35_ok (u : Int) (t : Int) (l : Int) (h : List (T2x)) (j : List (T3x)) {r : List (Int × Int)} (hm : f35_m u t l h j = some r) {s : Option Addr} {m : Nat} {aw : Option Addr} {av : Nat} {I : Im} {F : List HP} {w : World} (hs : Sat I (F) w) (aF : SN42 I s h.length m h) (ax : SN152 I aw j.length av j) :
    CV P 35 [.agg (cL8 u t l s h.length m).toArray, .slice aw j.length av] w fun v w' => ∃ (J : Im) (m0 : Nat), Im.le I J ∧ Sat J (mq m0 vi64 r :: F) w' ∧ v = .map (some m0) := by
 unfold f35_m at hm
 refine cv_of (n := 39) Proofs.Tryz.func35 rfl rfl (nLe rfl) <| cQ <| cR <| oB (v := .agg (cL8 u t l s h.length m).toArray) (cs := (cL8 u t l s h.length m)) hs rfl rfl ?_
 clear hs; intro b1 w hs
 refine oV (xA (v := .map none) rfl) rfl <| oN <| sQR <| cR <| ow_makeMapQ (V := Int) (vv := vi64) mt143 hs ?_
 clear hs; intro m3 w hs
 refine oF (b := b1) (o := 0) fl33_2 rfl <| ld1 (k := 1) hs rfl rfl ty3 rfl <| oF (b := b1) (o := 0) fl33_3 rfl <| ld1 (k := 1) hs rfl rfl ty31 rfl <| oV (x_len sl31 rfl) rfl <| oV (x_add rfl rfl) rfl <| oV (x_sub rfl rfl) rfl <| ow_insQ (q := 0) (k := (w64 ((w64 (l + (h.length : Int))) - 1))) (v := 1) mt143 hs rfl rfl rfl rfl ?_
 clear hs; intro w hs
 refine oV (xM (v := .map (some m3)) rfl) rfl <| oV (xA (v := .map (some m3)) rfl) rfl <| oN <| sK ?_
 obtain ⟨aj, au, aC⟩ := bS hm
 replace hm := au; clear au
 refine cJ (fun f ds w => ∃ (ao : Im), ds = [] ∧ Im.le I ao ∧ Sat ao (mq m3 vi64 aj :: blk b1 33 (cL8 u t l s h.length m) :: F) w ∧ f 4 = .map none ∧ f 5 = .map (some m3)) ?_ ?_
 · refine cQ <| cR <| mS rfl <| oV (x_len sl147 rfl) rfl <| mI rfl <| oN <| sK <| cw_block ?_
   refine cL (S := fun k f ds w => ∃ (a : Int) (e : List (Int × Int)), ∃ (B : Im), ds = [] ∧ Im.le I B ∧ f35_l0 j k a e = some aj ∧ Sat B (mq m3 vi64 e :: blk b1 33 (cL8 u t l s h.length m) :: F) w ∧ f 4 = .map none ∧ f 5 = .map (some m3) ∧ f 19 = .slice aw j.length av ∧ f 20 = iN (j.length : Int) ∧ f 21 = iN a) ?_ (k := FUEL) ⟨0, upM ([] : List (Int × Int)) (w64 ((w64 (l + (h.length : Int))) - 1)) 1, I, rfl, iR, hm, hs, rfl, rfl, rfl, rfl, rfl⟩
   clear hm hs
   rintro k f ds w ⟨a, e, B, rfl, H, hm, hs, am, ak, X, U, y⟩
   rcases k with _ | k
   · unfold f35_l0 at hm; cases hm
   unfold f35_l0 at hm
   refine cQ <| cR <| oV (x_lss y U) rfl <| oN <| sQR ?_
   by_cases L : a < (j.length : Int)
   · rw [if_pos L] at hm
     refine cIt rfl (dT L) <| cw_skip <| sK ?_
     obtain ⟨N, au, aB⟩ := bS hm
     replace hm := au; clear au
     refine cJ (fun f ds w => ∃ (an : Im), ds = [] ∧ Im.le B an ∧ Sat an (mq m3 vi64 N :: blk b1 33 (cL8 u t l s h.length m) :: F) w ∧ f 4 = .map none ∧ f 5 = .map (some m3) ∧ f 19 = .slice aw j.length av ∧ f 20 = iN (j.length : Int) ∧ f 21 = iN a) ?_ ?_
     · refine cw_block <| cQ <| cR ?_
       have A := (iS hm).1
       replace hm := (iS hm).2
       replace ax := ax.mono H
       refine oI (i := a) sl147 ty152 X y A.1 A.2 (SN152.some ax (by have := A; omega)) ?_
       obtain ⟨csu282, hru282, hnu282⟩ := (id ax)
       obtain ⟨vsu282, hvu282, ad, aa, ac, Z, ab, Y, D, C, rfl, aI, aH, aG, M⟩ := NL.at rl152.len hnu282 A.1 A.2
       refine oLR (p := a.toNat * 19) (vs := (rL12 (at' j a) ad aa ac Z ab Y D C)) (v := .agg (rL12 (at' j a) ad aa ac Z ab Y D C).toArray) hs hru282 rfl ty152 ((cells_part hvu282 0 19 (by decide)).trans rfl) rfl rfl <| ow_alloc hs ty152 rfl ?_
       clear hs; intro aA w hs
       refine oS (k := 0) (vs := (rL12 (at' j a) ad aa ac Z ab Y D C)) (cs' := (rL12 (at' j a) ad aa ac Z ab Y D C)) hs rfl rfl rfl ty152 rfl rfl (nLe rfl) rfl rfl ?_
       clear hs; intro w hs
       refine oN <| sQR <| cR <| oF (b := aA) (o := 0) fl152_2 rfl <| ld1 (k := 0) hs rfl rfl ty24 rfl <| oV (x_len sl24 rfl) rfl <| mI rfl <| oN <| sK <| cw_block ?_
       refine cL (S := fun k f ds w => ∃ (c : Int) (d : List (Int × Int)), ∃ (ae : Im), ds = [] ∧ Im.le B ae ∧ f35_l1 j a k c d = some N ∧ Sat ae (blk aA 152 (rL12 (at' j a) ad aa ac Z ab Y D C) :: mq m3 vi64 d :: blk b1 33 (cL8 u t l s h.length m) :: F) w ∧ f 4 = .map none ∧ f 5 = .map (some m3) ∧ f 19 = .slice aw j.length av ∧ f 20 = iN (j.length : Int) ∧ f 21 = iN a ∧ f 26 = .slice D (((at' j a).2.2.2.2.2.2.2.2.2.2.2.2.2.2.2.2.2.1).length) C ∧ f 27 = iN (((at' j a).2.2.2.2.2.2.2.2.2.2.2.2.2.2.2.2.2.1).length : Int) ∧ f 28 = iN c) ?_ (k := FUEL) ⟨0, e, B, rfl, iR, hm, hs, am, ak, X, U, y, rfl, rfl, rfl⟩
       clear hm hs
       rintro k f ds w ⟨c, d, ae, rfl, G, hm, hs, al, E, W, T, R, Q, O, x⟩
       rcases k with _ | k
       · unfold f35_l1 at hm; cases hm
       unfold f35_l1 at hm
       refine cQ <| cR <| oV (x_lss x O) rfl <| oN <| sQR ?_
       by_cases K : c < (((at' j a).2.2.2.2.2.2.2.2.2.2.2.2.2.2.2.2.2.1).length : Int)
       · rw [if_pos K] at hm
         refine cIt rfl (dT K) <| cw_skip <| sQR <| cw_block <| cQ <| cR ?_
         have z := (iS hm).1
         replace hm := (iS hm).2
         replace M := M.mono G
         refine oI (i := c) sl24 ty3 Q x z.1 z.2 (Rs.some M (by have := z; omega)) <| oLR (p := c.toNat * 1) (vs := [iN (at' ((at' j a).2.2.2.2.2.2.2.2.2.2.2.2.2.2.2.2.2.1) c)]) (v := iN (at' ((at' j a).2.2.2.2.2.2.2.2.2.2.2.2.2.2.2.2.2.1) c)) hs M rfl ty3 (flat_at (enc := e64) (sz := 1) (fun _ => rfl) ((at' j a).2.2.2.2.2.2.2.2.2.2.2.2.2.2.2.2.2.1) c z.1 z.2 0 1 (by decide)) rfl rfl <| asI rfl <| oN <| sK <| cR <| oV (xM (v := .map (some m3)) E) rfl <| mI rfl <| ow_lookupQ (q := 1) (k := (at' ((at' j a).2.2.2.2.2.2.2.2.2.2.2.2.2.2.2.2.2.1) c)) (zv := 0) (v := iN (getM d (at' ((at' j a).2.2.2.2.2.2.2.2.2.2.2.2.2.2.2.2.2.1) c) 0)) mt143 mz143 hs rfl rfl rfl rfl <| oV (x_add rfl rfl) rfl <| ow_updQ (q := 1) (k := (at' ((at' j a).2.2.2.2.2.2.2.2.2.2.2.2.2.2.2.2.2.1) c)) (v := (w64 ((getM d (at' ((at' j a).2.2.2.2.2.2.2.2.2.2.2.2.2.2.2.2.2.1) c) 0) + 1))) mt143 hs rfl rfl rfl rfl ?_
         clear hs; intro w hs
         refine oN <| blockK_n <| sK <| cR <| oV (x_add x rfl) rfl <| mI rfl <| oN ?_
         exact lN ⟨k, Nat.lt_succ_self k, w64 (c + 1), upM d (at' ((at' j a).2.2.2.2.2.2.2.2.2.2.2.2.2.2.2.2.2.1) c) (w64 ((getM d (at' ((at' j a).2.2.2.2.2.2.2.2.2.2.2.2.2.2.2.2.2.1) c) 0) + 1)), ae, rfl, G, hm, hs, al, E, W, T, R, Q, O, rfl⟩
       rw [if_neg K] at hm
       refine cIf rfl (dF K) <| cw_exit <| seqK_x <| loopK_x <| blockK_hit <| blockK_n ?_
       replace hs := hs.erase 0
       obtain rfl := oJ hm
       refine jN ⟨ae, rfl, G, hs, al, E, W, T, R⟩
     clear hm hs
     rintro f ds w ⟨an, rfl, az, hs, ar, ap, ai, ah, ag⟩
     replace hm := aB
     refine cR <| oV (x_add ag rfl) rfl <| mI rfl <| oN ?_
     exact lN ⟨k, Nat.lt_succ_self k, w64 (a + 1), N, an, rfl, (H.trans az), hm, hs, ar, ap, ai, ah, rfl⟩
   rw [if_neg L] at hm
   refine cIf rfl (dF L) <| cw_exit <| seqK_x <| loopK_x <| blockK_hit ?_
   obtain rfl := oJ hm
   refine jN ⟨B, rfl, H, hs, am, ak⟩
 clear hm hs
 rintro f ds w ⟨ao, rfl, ay, hs, aD, aq⟩
 replace hm := aC
 refine cQ <| cR <| oV (xM (v := .map (some m3)) aq) rfl <| oV (xA (v := .map (some m3)) rfl) rfl <| oN <| sK <| cw_ret <| rK (rs := [.tmp 4]) (vs := [.map (some m3)]) (.inr rfl) rfl ⟨rfl, trivial⟩ ?_
 obtain rfl := oJ hm
 replace hs := hs.erase 1
 exact ⟨ao, m3, ay, hs, rfl⟩
def f62_m (N : Int) (M : Int) (L : Int) (K : Int) (H : Int) (G : Int) (E : Int) (D : Int) (C : Int) (B : Int) (A : Int) (f : List Int) (z : Int) (y : Int) (x : Int) (e : List Bool) (d : List (T1x)) (c : List Int) (u : Int) (Q : List (Int × Bool)) (t : Int) : Option ((List (Int × Bool)) × Int) :=
  some (Q, max t (Q.length : Int))
theorem f62_ok (N : Int) (M : Int) (L : Int) (K : Int) (H : Int) (G : Int) (E : Int) (D : Int) (C : Int) (B : Int) (A : Int) (f : List Int) (z : Int) (y : Int) (x : Int) (e : List Bool) (d : List (T1x)) (c : List Int) (u : Int) (Q : List (Int × Bool)) (t : Int) {r : (List (Int × Bool)) × Int} (hm : f62_m N M L K H G E D C B A f z y x e d c u Q t = some r) {s : Option Addr} {l : Nat} {p : Option Addr} {j : Nat} {o : Option Addr} {i : Nat} {m : Option Addr} {h : Nat} {O : Nat} {R : Nat} {I : Im} {F : List HP} {w : World} (hs : Sat I (mq O vbl Q :: blk R 3 [iN t] :: F) w) (V : Rs I 1 s f.length l (f.flatMap e64)) (U : Rs I 1 p e.length j (e.flatMap eB)) (T : Rs I 5 o d.length i (d.flatMap enc35)) (S : Rs I 1 m c.length h (c.flatMap e64)) :
    CV P 62 [.agg (cL11 N M L K H G E D C B A s f.length l z y x p e.length j o d.length i m c.length h u).toArray, .map (some O), pQ R 0] w fun v w' => ∃ (J : Im), Im.le I J ∧ Sat J (mq O vbl r.1 :: blk R 3 [iN r.2] :: F) w' ∧ v = .tuple #[] := by
 unfold f62_m at hm
 refine cv_of (n := 9) Proofs.Tryz.func62 rfl rfl (nLe rfl) <| cQ <| cR <| oB (v := .agg (cL11 N M L K H G E D C B A s f.length l z y x p e.length j o d.length i m c.length h u).toArray) (cs := (cL11 N M L K H G E D C B A s f.length l z y x p e.length j o d.length i m c.length h u)) hs rfl rfl ?_
 clear hs; intro W w hs
 refine oN <| sK <| cR <| ld1 (k := 2) hs rfl rfl ty3 rfl <| oV (xM (v := .map (some O)) rfl) rfl <| ow_lenQ (q := 1) mt153 hs rfl rfl <| oV (x_max2 (k := .i64) (a := t) (b := (Q.length : Int)) rfl rfl) rfl <| oS (k := 2) (vs := [iN (max t (Q.length : Int))]) (cs' := [iN (max t (Q.length : Int))]) hs rfl rfl rfl ty3 rfl rfl (nLe rfl) rfl rfl ?_
 clear hs; intro w hs
 refine oN <| rK (rs := []) (vs := []) (.inl rfl) rfl trivial ?_
 obtain rfl := oJ hm
 replace hs := hs.erase 0
 exact ⟨I, iR, hs, rfl⟩
def f38_l0 (l : Int) (r8 : List (Int × Int)) : Nat → Int → (List (Int × Bool)) → Option (List (Int × Bool))
  | 0, _, _ => none
  | k + 1, e, x => (if e < l then (if 0 < (getM r8 e 0) then (f38_l0 l r8 k (w64 (e + 1)) (upM x e true)) else (f38_l0 l r8 k (w64 (e + 1)) x)) else some x)
def f38_l2 (h : List (T3x)) (a : Int) : Nat → Int → (List (Int × Bool)) → (List (Int × Int)) → Option ((List (Int × Bool)) × (List (Int × Int)))
  | 0, _, _, _ => none
  | k + 1, c, u, d => (if c < (((at' h a).2.2.2.2.2.2.2.2.2.2.2.2.2.2.2.2.2.1).length : Int) then (if 0 ≤ c ∧ c < (((at' h a).2.2.2.2.2.2.2.2.2.2.2.2.2.2.2.2.2.1).length : Int) then (if (getM (upM d (at' ((at' h a).2.2.2.2.2.2.2.2.2.2.2.2.2.2.2.2.2.1) c) (w64 ((getM d (at' ((at' h a).2.2.2.2.2.2.2.2.2.2.2.2.2.2.2.2.2.1) c) 0) - 1))) (at' ((at' h a).2.2.2.2.2.2.2.2.2.2.2.2.2.2.2.2.2.1) c) 0) = 0 then (f38_l2 h a k (w64 (c + 1)) (delM u (at' ((at' h a).2.2.2.2.2.2.2.2.2.2.2.2.2.2.2.2.2.1) c)) (upM d (at' ((at' h a).2.2.2.2.2.2.2.2.2.2.2.2.2.2.2.2.2.1) c) (w64 ((getM d (at' ((at' h a).2.2.2.2.2.2.2.2.2.2.2.2.2.2.2.2.2.1) c) 0) - 1)))) else (f38_l2 h a k (w64 (c + 1)) u (upM d (at' ((at' h a).2.2.2.2.2.2.2.2.2.2.2.2.2.2.2.2.2.1) c) (w64 ((getM d (at' ((at' h a).2.2.2.2.2.2.2.2.2.2.2.2.2.2.2.2.2.1) c) 0) - 1))))) else none) else some (u, d))
def f38_l1 (h : List (T3x)) : Nat → Int → (List (Int × Bool)) → (List (Int × Int)) → Int → Option Int
  | 0, _, _, _, _ => none
  | k + 1, a, D, t, m => (if a < (h.length : Int) then ((if 0 ≤ a ∧ a < (h.length : Int) then ((f62_m ((at' h a).1) ((at' h a).2.1) ((at' h a).2.2.1) ((at' h a).2.2.2.1) ((at' h a).2.2.2.2.1) ((at' h a).2.2.2.2.2.1) ((at' h a).2.2.2.2.2.2.1) ((at' h a).2.2.2.2.2.2.2.1) ((at' h a).2.2.2.2.2.2.2.2.1) ((at' h a).2.2.2.2.2.2.2.2.2.1) ((at' h a).2.2.2.2.2.2.2.2.2.2.1) ((at' h a).2.2.2.2.2.2.2.2.2.2.2.1) ((at' h a).2.2.2.2.2.2.2.2.2.2.2.2.1) ((at' h a).2.2.2.2.2.2.2.2.2.2.2.2.2.1) ((at' h a).2.2.2.2.2.2.2.2.2.2.2.2.2.2.1) ((at' h a).2.2.2.2.2.2.2.2.2.2.2.2.2.2.2.1) ((at' h a).2.2.2.2.2.2.2.2.2.2.2.2.2.2.2.2.1) ((at' h a).2.2.2.2.2.2.2.2.2.2.2.2.2.2.2.2.2.1) ((at' h a).2.2.2.2.2.2.2.2.2.2.2.2.2.2.2.2.2.2) (upM D ((at' h a).2.2.2.2.2.2.2.2.2.2.2.2.2.2.2.2.2.2) true) m).bind fun ai => ((f38_l2 h a FUEL 0 ai.1 t).bind fun (H : (List (Int × Bool)) × (List (Int × Int))) => (if (getM H.2 ((at' h a).2.2.2.2.2.2.2.2.2.2.2.2.2.2.2.2.2.2) 0) = 0 then some (delM H.1 ((at' h a).2.2.2.2.2.2.2.2.2.2.2.2.2.2.2.2.2.2), H.2, ai.2) else some (H.1, H.2, ai.2)))) else none).bind fun (K : (List (Int × Bool)) × (List (Int × Int)) × Int) => (f38_l1 h k (w64 (a + 1)) K.1 K.2.1 K.2.2)) else some m)
def f38_m (C : Int) (B : Int) (l : Int) (A : List (T2x)) (E : Int) : Option Int :=
  ((f36_m C B l A).bind fun h => ((f35_m C B l A h).bind fun r8 => ((f38_l0 l r8 FUEL 0 ([] : List (Int × Bool))).bind fun (a6 : List (Int × Bool)) => (f38_l1 h FUEL 0 a6 r8 E))))
theorem f38_ok (C : Int) (B : Int) (l : Int) (A : List (T2x)) (E : Int) {r : Int} (hm : f38_m C B l A E = some r) {z : Option Addr} {y : Nat} {s : Nat} {I : Im} {F : List HP} {w : World} (hs : Sat I (blk s 3 [iN E] :: F) w) (aB : SN42 I z A.length y A) :
    CV P 38 [.agg (cL8 C B l z A.length y).toArray, .func (.func 62) #[] #[pQ s 0]] w fun v w' => ∃ (J : Im), Im.le I J ∧ Sat J (blk s 3 [iN r] :: F) w' ∧ v = .tuple #[] := by
 unfold f38_m at hm
 refine cv_of (n := 70) Proofs.Tryz.func38 rfl rfl (nLe rfl) <| cQ <| cR <| oB (v := .agg (cL8 C B l z A.length y).toArray) (cs := (cL8 C B l z A.length y)) hs rfl rfl ?_
 clear hs; intro b1 w hs
 refine oN <| sQR <| cR <| oL (k := 0) (vs := (cL8 C B l z A.length y)) (v := .agg (cL8 C B l z A.length y).toArray) hs rfl rfl ty33 rfl rfl rfl ?_
 obtain ⟨h, bs, hm⟩ := bS hm
 refine oC (fi := []) (vs := [.agg (cL8 C B l z A.length y).toArray]) (ca := []) rfl ⟨rfl, trivial⟩ en36 (f36_ok _ _ _ _ bs hs aB) ?_
 clear hs; rintro _ w ⟨J5, O, N, bh, hs, rfl, hRz7_0⟩
 refine asS rfl <| oN <| sQR <| cR <| oL (k := 0) (vs := (cL8 C B l z A.length y)) (v := .agg (cL8 C B l z A.length y).toArray) hs rfl rfl ty33 rfl rfl rfl <| mS rfl ?_
 obtain ⟨r8, br, hm⟩ := bS hm
 replace aB := aB.mono bh
 refine oC (fi := []) (vs := [.agg (cL8 C B l z A.length y).toArray, .slice O h.length N]) (ca := []) rfl ⟨rfl, rfl, trivial⟩ en35 (f35_ok _ _ _ _ _ br hs aB hRz7_0) ?_
 clear hs; rintro _ w ⟨bp, j, bc, hs, rfl⟩
 refine oV (xA (v := .map (some j)) rfl) rfl <| oN <| sQR <| cR <| ow_makeMapQ (V := Bool) (vv := vbl) mt153 hs ?_
 clear hs; intro G w hs
 refine oV (xA (v := .map (some G)) rfl) rfl <| oN <| sK ?_
 obtain ⟨a6, aP, bq⟩ := bS hm
 replace hm := aP; clear aP
 refine cJ (fun f ds w => ∃ (be : Im), ds = [] ∧ Im.le bp be ∧ Sat be (mq G vbl a6 :: mq j vi64 r8 :: blk b1 33 (cL8 C B l z A.length y) :: blk s 3 [iN E] :: F) w ∧ f 1 = .func (.func 62) #[] #[pQ s 0] ∧ f 4 = .slice O h.length N ∧ f 5 = .map (some j) ∧ f 6 = .map (some G)) ?_ ?_
 · refine cQ <| cR <| oF (b := b1) (o := 0) fl33_2 rfl <| ld1 (k := 2) hs rfl rfl ty3 rfl <| mI rfl <| oN <| sK <| cw_block ?_
   refine cL (S := fun k f ds w => ∃ (e : Int) (x : List (Int × Bool)), ∃ (a5 : Im), ds = [] ∧ Im.le bp a5 ∧ f38_l0 l r8 k e x = some a6 ∧ Sat a5 (mq G vbl x :: mq j vi64 r8 :: blk b1 33 (cL8 C B l z A.length y) :: blk s 3 [iN E] :: F) w ∧ f 1 = .func (.func 62) #[] #[pQ s 0] ∧ f 4 = .slice O h.length N ∧ f 5 = .map (some j) ∧ f 6 = .map (some G) ∧ f 19 = iN l ∧ f 20 = iN e) ?_ (k := FUEL) ⟨0, ([] : List (Int × Bool)), bp, rfl, iR, hm, hs, rfl, rfl, rfl, rfl, rfl, rfl⟩
   clear hm hs
   rintro k f ds w ⟨e, x, a5, rfl, aV, hm, hs, aG, aE, ag, af, au, T⟩
   rcases k with _ | k
   · unfold f38_l0 at hm; cases hm
   unfold f38_l0 at hm
   refine cQ <| cR <| oV (x_lss T au) rfl <| oN <| sQR ?_
   by_cases aZ : e < l
   · rw [if_pos aZ] at hm
     refine cIt rfl (dT aZ) <| cw_skip <| sQR <| cw_block <| cQ <| cR <| mI T <| asI rfl <| oN <| sQR ?_
     refine cR <| oV (xM (v := .map (some j)) ag) rfl <| mI rfl <| ow_lookupQ (q := 1) (k := e) (zv := 0) (v := iN (getM r8 e 0)) mt143 mz143 hs rfl rfl rfl rfl <| oV (x_gtr rfl rfl) rfl <| oN <| sK ?_
     by_cases aY : 0 < (getM r8 e 0)
     · rw [if_pos aY] at hm
       refine cIt rfl (dT aY) <| cR <| oV (xM (v := .map (some G)) af) rfl <| mI rfl <| ow_updQ (q := 0) (k := e) (v := true) mt153 hs rfl rfl rfl rfl ?_
       clear hs; intro w hs
       refine oN <| blockK_n <| sK <| cR <| oV (x_add T rfl) rfl <| mI rfl <| oN ?_
       exact lN ⟨k, Nat.lt_succ_self k, w64 (e + 1), upM x e true, a5, rfl, aV, hm, hs, aG, aE, ag, af, au, rfl⟩
     rw [if_neg aY] at hm
     refine cIf rfl (dF aY) <| cw_skip <| blockK_n <| sK <| cR <| oV (x_add T rfl) rfl <| mI rfl <| oN ?_
     exact lN ⟨k, Nat.lt_succ_self k, w64 (e + 1), x, a5, rfl, aV, hm, hs, aG, aE, ag, af, au, rfl⟩
   rw [if_neg aZ] at hm
   refine cIf rfl (dF aZ) <| cw_exit <| seqK_x <| loopK_x <| blockK_hit ?_
   obtain rfl := oJ hm
   refine jN ⟨a5, rfl, aV, hs, aG, aE, ag, af⟩
 clear hm hs
 rintro f ds w ⟨be, rfl, bb, hs, ba, a9, a8, a7⟩
 replace hm := bq
 refine cQ <| cR <| mS a9 <| oV (x_len sl147 rfl) rfl <| mI rfl <| oN <| sK <| cw_block ?_
 refine cL (S := fun k f ds w => ∃ (a : Int) (D : List (Int × Bool)) (t : List (Int × Int)) (m : Int), ∃ (aR : Im), ds = [] ∧ Im.le be aR ∧ f38_l1 h k a D t m = some r ∧ Sat aR (mq G vbl D :: mq j vi64 t :: blk b1 33 (cL8 C B l z A.length y) :: blk s 3 [iN m] :: F) w ∧ f 1 = .func (.func 62) #[] #[pQ s 0] ∧ f 5 = .map (some j) ∧ f 6 = .map (some G) ∧ f 30 = .slice O h.length N ∧ f 31 = iN (h.length : Int) ∧ f 32 = iN a) ?_ (k := FUEL) ⟨0, a6, r8, E, be, rfl, iR, hm, hs, ba, a8, a7, rfl, rfl, rfl⟩
 clear hm hs
 rintro k f ds w ⟨a, D, t, m, aR, rfl, aI, hm, hs, aW, bf, aD, aO, aN, an⟩
 rcases k with _ | k
 · unfold f38_l1 at hm; cases hm
 unfold f38_l1 at hm
 refine cQ <| cR <| oV (x_lss an aN) rfl <| oN <| sQR ?_
 by_cases aM : a < (h.length : Int)
 · rw [if_pos aM] at hm
   refine cIt rfl (dT aM) <| cw_skip <| sK ?_
   obtain ⟨K, aP, bk⟩ := bS hm
   replace hm := aP; clear aP
   refine cJ (fun f ds w => ∃ (a0 : Im), ds = [] ∧ Im.le aR a0 ∧ Sat a0 (mq G vbl K.1 :: mq j vi64 K.2.1 :: blk b1 33 (cL8 C B l z A.length y) :: blk s 3 [iN K.2.2] :: F) w ∧ f 1 = .func (.func 62) #[] #[pQ s 0] ∧ f 5 = .map (some j) ∧ f 6 = .map (some G) ∧ f 30 = .slice O h.length N ∧ f 31 = iN (h.length : Int) ∧ f 32 = iN a) ?_ ?_
   · refine cw_block <| cQ <| cR ?_
     have aw := (iS hm).1
     replace hm := (iS hm).2
     replace hRz7_0 := hRz7_0.mono ((bc.trans bb).trans aI)
     refine oI (i := a) sl147 ty152 aO an aw.1 aw.2 (SN152.some hRz7_0 (by have := aw; omega)) ?_
     obtain ⟨csu270, hru270, hnu270⟩ := (id hRz7_0)
     obtain ⟨vsu270, hvu270, aa, X, Z, W, Y, U, M, L, rfl, bn, bm, bl, ax⟩ := NL.at rl152.len hnu270 aw.1 aw.2
     refine oLR (p := a.toNat * 19) (vs := (rL12 (at' h a) aa X Z W Y U M L)) (v := .agg (rL12 (at' h a) aa X Z W Y U M L).toArray) hs hru270 rfl ty152 ((cells_part hvu270 0 19 (by decide)).trans rfl) rfl rfl <| ow_alloc hs ty152 rfl ?_
     clear hs; intro ad w hs
     refine oS (k := 0) (vs := (rL12 (at' h a) aa X Z W Y U M L)) (cs' := (rL12 (at' h a) aa X Z W Y U M L)) hs rfl rfl rfl ty152 rfl rfl (nLe rfl) rfl rfl ?_
     clear hs; intro w hs
     refine oN <| sQR <| cR <| oV (xM (v := .map (some G)) aD) rfl <| oF (b := ad) (o := 0) fl152_3 rfl <| ld1 (k := 0) hs rfl rfl ty3 rfl <| ow_updQ (q := 1) (k := ((at' h a).2.2.2.2.2.2.2.2.2.2.2.2.2.2.2.2.2.2)) (v := true) mt153 hs rfl rfl rfl rfl ?_
     clear hs; intro w hs
     refine oN <| sQR <| cR <| oV (xM (v := .func (.func 62) #[] #[pQ s 0]) aW) rfl <| oL (k := 0) (vs := (rL12 (at' h a) aa X Z W Y U M L)) (v := .agg (rL12 (at' h a) aa X Z W Y U M L).toArray) hs rfl rfl ty152 rfl rfl rfl <| oV (xM (v := .map (some G)) aD) rfl ?_
     replace hs := hs.front (k := 4) rfl
     replace hs := hs.front (k := 2) rfl
     obtain ⟨ai, bi, hm⟩ := bS hm
     refine oC (fi := []) (vs := [.agg (rL12 (at' h a) aa X Z W Y U M L).toArray, .map (some G)]) (ca := [pQ s 0]) rfl ⟨rfl, rfl, trivial⟩ en62 (f62_ok _ _ _ _ _ _ _ _ _ _ _ _ _ _ _ _ _ _ _ _ _ bi hs bn bm bl ax) ?_
     clear hs; rintro _ w ⟨bd, aH, hs, rfl⟩
     refine oN <| sK ?_
     obtain ⟨H, aP, bj⟩ := bS hm
     replace hm := aP; clear aP
     refine cJ (fun f ds w => ∃ (aQ : Im), ds = [] ∧ Im.le bd aQ ∧ Sat aQ (mq G vbl H.1 :: blk s 3 [iN ai.2] :: blk ad 152 (rL12 (at' h a) aa X Z W Y U M L) :: mq j vi64 H.2 :: blk b1 33 (cL8 C B l z A.length y) :: F) w ∧ f 1 = .func (.func 62) #[] #[pQ s 0] ∧ f 5 = .map (some j) ∧ f 6 = .map (some G) ∧ f 9 = pQ ad 0 ∧ f 30 = .slice O h.length N ∧ f 31 = iN (h.length : Int) ∧ f 32 = iN a) ?_ ?_
     · refine cQ <| cR <| oF (b := ad) (o := 0) fl152_2 rfl <| ld1 (k := 2) hs rfl rfl ty24 rfl <| oV (x_len sl24 rfl) rfl <| mI rfl <| oN <| sK <| cw_block ?_
       refine cL (S := fun k f ds w => ∃ (c : Int) (u : List (Int × Bool)) (d : List (Int × Int)), ∃ (aA : Im), ds = [] ∧ Im.le bd aA ∧ f38_l2 h a k c u d = some H ∧ Sat aA (mq G vbl u :: blk s 3 [iN ai.2] :: blk ad 152 (rL12 (at' h a) aa X Z W Y U M L) :: mq j vi64 d :: blk b1 33 (cL8 C B l z A.length y) :: F) w ∧ f 1 = .func (.func 62) #[] #[pQ s 0] ∧ f 5 = .map (some j) ∧ f 6 = .map (some G) ∧ f 9 = pQ ad 0 ∧ f 30 = .slice O h.length N ∧ f 31 = iN (h.length : Int) ∧ f 32 = iN a ∧ f 44 = .slice M (((at' h a).2.2.2.2.2.2.2.2.2.2.2.2.2.2.2.2.2.1).length) L ∧ f 45 = iN (((at' h a).2.2.2.2.2.2.2.2.2.2.2.2.2.2.2.2.2.1).length : Int) ∧ f 46 = iN c) ?_ (k := FUEL) ⟨0, ai.1, t, bd, rfl, iR, hm, hs, aW, bf, aD, rfl, aO, aN, an, rfl, rfl, rfl⟩
       clear hm hs
       rintro k f ds w ⟨c, u, d, aA, rfl, ah, hm, hs, aF, Q, ae, aC, ar, ap, am, ak, aj, R⟩
       rcases k with _ | k
       · unfold f38_l2 at hm; cases hm
       unfold f38_l2 at hm
       refine cQ <| cR <| oV (x_lss R aj) rfl <| oN <| sQR ?_
       by_cases aL : c < (((at' h a).2.2.2.2.2.2.2.2.2.2.2.2.2.2.2.2.2.1).length : Int)
       · rw [if_pos aL] at hm
         refine cIt rfl (dT aL) <| cw_skip <| sQR <| cw_block <| cQ <| cR ?_
         have av := (iS hm).1
         replace hm := (iS hm).2
         replace ax := ax.mono (aH.trans ah)
         refine oI (i := c) sl24 ty3 ak R av.1 av.2 (Rs.some ax (by have := av; omega)) <| oLR (p := c.toNat * 1) (vs := [iN (at' ((at' h a).2.2.2.2.2.2.2.2.2.2.2.2.2.2.2.2.2.1) c)]) (v := iN (at' ((at' h a).2.2.2.2.2.2.2.2.2.2.2.2.2.2.2.2.2.1) c)) hs ax rfl ty3 (flat_at (enc := e64) (sz := 1) (fun _ => rfl) ((at' h a).2.2.2.2.2.2.2.2.2.2.2.2.2.2.2.2.2.1) c av.1 av.2 0 1 (by decide)) rfl rfl <| asI rfl <| oN <| sQR <| cR <| oV (xM (v := .map (some j)) Q) rfl <| mI rfl <| ow_lookupQ (q := 3) (k := (at' ((at' h a).2.2.2.2.2.2.2.2.2.2.2.2.2.2.2.2.2.1) c)) (zv := 0) (v := iN (getM d (at' ((at' h a).2.2.2.2.2.2.2.2.2.2.2.2.2.2.2.2.2.1) c) 0)) mt143 mz143 hs rfl rfl rfl rfl <| oV (x_sub rfl rfl) rfl <| ow_updQ (q := 3) (k := (at' ((at' h a).2.2.2.2.2.2.2.2.2.2.2.2.2.2.2.2.2.1) c)) (v := (w64 ((getM d (at' ((at' h a).2.2.2.2.2.2.2.2.2.2.2.2.2.2.2.2.2.1) c) 0) - 1))) mt143 hs rfl rfl rfl rfl ?_
         clear hs; intro w hs
         refine oN <| sQR <| cR <| oV (xM (v := .map (some j)) Q) rfl <| mI rfl <| ow_lookupQ (q := 3) (k := (at' ((at' h a).2.2.2.2.2.2.2.2.2.2.2.2.2.2.2.2.2.1) c)) (zv := 0) (v := iN (getM (upM d (at' ((at' h a).2.2.2.2.2.2.2.2.2.2.2.2.2.2.2.2.2.1) c) (w64 ((getM d (at' ((at' h a).2.2.2.2.2.2.2.2.2.2.2.2.2.2.2.2.2.1) c) 0) - 1))) (at' ((at' h a).2.2.2.2.2.2.2.2.2.2.2.2.2.2.2.2.2.1) c) 0)) mt143 mz143 hs rfl rfl rfl rfl <| oV (x_eql rfl rfl) rfl <| oN <| sK ?_
         by_cases aK : (getM (upM d (at' ((at' h a).2.2.2.2.2.2.2.2.2.2.2.2.2.2.2.2.2.1) c) (w64 ((getM d (at' ((at' h a).2.2.2.2.2.2.2.2.2.2.2.2.2.2.2.2.2.1) c) 0) - 1))) (at' ((at' h a).2.2.2.2.2.2.2.2.2.2.2.2.2.2.2.2.2.1) c) 0) = 0
         · rw [if_pos aK] at hm
           refine cIt rfl (dT aK) <| cR <| oV (xM (v := .map (some G)) ae) rfl <| mI rfl <| ow_delQ (q := 0) (k := (at' ((at' h a).2.2.2.2.2.2.2.2.2.2.2.2.2.2.2.2.2.1) c)) mt153 hs rfl rfl rfl ?_
           clear hs; intro w hs
           refine oN <| blockK_n <| sK <| cR <| oV (x_add R rfl) rfl <| mI rfl <| oN ?_
           exact lN ⟨k, Nat.lt_succ_self k, w64 (c + 1), delM u (at' ((at' h a).2.2.2.2.2.2.2.2.2.2.2.2.2.2.2.2.2.1) c), upM d (at' ((at' h a).2.2.2.2.2.2.2.2.2.2.2.2.2.2.2.2.2.1) c) (w64 ((getM d (at' ((at' h a).2.2.2.2.2.2.2.2.2.2.2.2.2.2.2.2.2.1) c) 0) - 1)), aA, rfl, ah, hm, hs, aF, Q, ae, aC, ar, ap, am, ak, aj, rfl⟩
         rw [if_neg aK] at hm
         refine cIf rfl (dF aK) <| cw_skip <| blockK_n <| sK <| cR <| oV (x_add R rfl) rfl <| mI rfl <| oN ?_
         exact lN ⟨k, Nat.lt_succ_self k, w64 (c + 1), u, upM d (at' ((at' h a).2.2.2.2.2.2.2.2.2.2.2.2.2.2.2.2.2.1) c) (w64 ((getM d (at' ((at' h a).2.2.2.2.2.2.2.2.2.2.2.2.2.2.2.2.2.1) c) 0) - 1)), aA, rfl, ah, hm, hs, aF, Q, ae, aC, ar, ap, am, ak, aj, rfl⟩
       rw [if_neg aL] at hm
       refine cIf rfl (dF aL) <| cw_exit <| seqK_x <| loopK_x <| blockK_hit ?_
       obtain rfl := oJ hm
       refine jN ⟨aA, rfl, ah, hs, aF, Q, ae, aC, ar, ap, am⟩
     clear hm hs
     rintro f ds w ⟨aQ, rfl, aX, hs, az, ac, ab, ay, aq, ao, al⟩
     replace hm := bj
     refine cQ <| cR <| oV (xM (v := .map (some j)) ac) rfl <| oF (b := ad) (o := 0) fl152_3 ay <| ld1 (k := 2) hs rfl rfl ty3 rfl <| ow_lookupQ (q := 3) (k := ((at' h a).2.2.2.2.2.2.2.2.2.2.2.2.2.2.2.2.2.2)) (zv := 0) (v := iN (getM H.2 ((at' h a).2.2.2.2.2.2.2.2.2.2.2.2.2.2.2.2.2.2) 0)) mt143 mz143 hs rfl rfl rfl rfl <| oV (x_eql rfl rfl) rfl <| oN <| sK ?_
     by_cases aJ : (getM H.2 ((at' h a).2.2.2.2.2.2.2.2.2.2.2.2.2.2.2.2.2.2) 0) = 0
     · rw [if_pos aJ] at hm
       refine cIt rfl (dT aJ) <| cR <| oV (xM (v := .map (some G)) ab) rfl <| oF (b := ad) (o := 0) fl152_3 ay <| ld1 (k := 2) hs rfl rfl ty3 rfl <| ow_delQ (q := 0) (k := ((at' h a).2.2.2.2.2.2.2.2.2.2.2.2.2.2.2.2.2.2)) mt153 hs rfl rfl rfl ?_
       clear hs; intro w hs
       refine oN <| blockK_n ?_
       replace hs := hs.erase 2
       replace hs := hs.front (k := 1) rfl
       replace hs := hs.front (k := 3) rfl
       replace hs := hs.front (k := 3) rfl
       replace hs := hs.front (k := 3) rfl
       obtain rfl := oJ hm
       refine jN ⟨aQ, rfl, (aH.trans aX), hs, az, ac, ab, aq, ao, al⟩
     rw [if_neg aJ] at hm
     refine cIf rfl (dF aJ) <| cw_skip <| blockK_n ?_
     replace hs := hs.erase 2
     replace hs := hs.front (k := 1) rfl
     replace hs := hs.front (k := 3) rfl
     replace hs := hs.front (k := 3) rfl
     replace hs := hs.front (k := 3) rfl
     obtain rfl := oJ hm
     refine jN ⟨aQ, rfl, (aH.trans aX), hs, az, ac, ab, aq, ao, al⟩
   clear hm hs
   rintro f ds w ⟨a0, rfl, bg, hs, a4, a3, a2, aU, aT, aS⟩
   replace hm := bk
   refine cR <| oV (x_add aS rfl) rfl <| mI rfl <| oN ?_
   exact lN ⟨k, Nat.lt_succ_self k, w64 (a + 1), K.1, K.2.1, K.2.2, a0, rfl, (aI.trans bg), hm, hs, a4, a3, a2, aU, aT, rfl⟩
 rw [if_neg aM] at hm
 refine cIf rfl (dF aM) <| cw_exit <| seqK_x <| loopK_x <| blockK_hit <| rK (rs := []) (vs := []) (.inl rfl) rfl trivial ?_
 obtain rfl := oJ hm
 replace hs := hs.erase 0
 replace hs := hs.erase 0
 replace hs := hs.erase 0
 exact ⟨aR, (((bh.trans bc).trans bb).trans aI), hs, rfl⟩
def f34_m (d : Int) (c : Int) (h : Int) (a : List (T2x)) : Option Int :=
  ((f38_m d c h a 0).bind fun l => some (w64 ((w64 (l * d)) * c)))
theorem f34_ok (d : Int) (c : Int) (h : Int) (a : List (T2x)) {r : Int} (hm : f34_m d c h a = some r) {f : Option Addr} {e : Nat} {I : Im} {F : List HP} {w : World} (hs : Sat I (F) w) (i : SN42 I f a.length e a) :
    CV P 34 [.agg (cL8 d c h f a.length e).toArray] w fun v w' => ∃ (J : Im), Im.le I J ∧ Sat J (F) w' ∧ v = iN r := by
 unfold f34_m at hm
 refine cv_of (n := 14) Proofs.Tryz.func34 rfl rfl (nLe rfl) <| cQ <| cR <| oB (v := .agg (cL8 d c h f a.length e).toArray) (cs := (cL8 d c h f a.length e)) hs rfl rfl ?_
 clear hs; intro q w hs
 refine asI rfl <| oN <| sQR <| cR <| ow_alloc hs ty3 rfl ?_
 clear hs; intro p w hs
 refine oS (k := 0) (vs := [iN 0]) (cs' := [iN 0]) hs rfl rfl rfl ty3 rfl rfl (nLe rfl) rfl rfl ?_
 clear hs; intro w hs
 refine oN <| sQR <| cR <| oL (k := 1) (vs := (cL8 d c h f a.length e)) (v := .agg (cL8 d c h f a.length e).toArray) hs rfl rfl ty33 rfl rfl rfl <| oV (x_funcL (vf := []) (vc := [pQ p 0]) trivial ⟨rfl, trivial⟩) rfl ?_
 obtain ⟨l, m, hm⟩ := bS hm
 refine oC (fi := []) (vs := [.agg (cL8 d c h f a.length e).toArray, .func (.func 62) #[] #[pQ p 0]]) (ca := []) rfl ⟨rfl, rfl, trivial⟩ en38 (f38_ok _ _ _ _ _ m hs i) ?_
 clear hs; rintro _ w ⟨s, j, hs, rfl⟩
 refine oN <| sQR <| cR <| ld1 (k := 0) hs rfl rfl ty3 rfl <| oF (b := q) (o := 0) fl33_0 rfl <| ld1 (k := 1) hs rfl rfl ty3 rfl <| oV (x_mul rfl rfl) rfl <| oF (b := q) (o := 0) fl33_1 rfl <| ld1 (k := 1) hs rfl rfl ty3 rfl <| oV (x_mul rfl rfl) rfl <| asI rfl ?_
 refine oN <| sK <| cw_ret <| rK (rs := [.tmp 2]) (vs := [iN (w64 ((w64 (l * d)) * c))]) (.inr rfl) rfl ⟨rfl, trivial⟩ ?_
 obtain rfl := oJ hm
 replace hs := hs.erase 0
 replace hs := hs.erase 0
 exact ⟨s, j, hs, rfl⟩
end Go.HL.Tz
