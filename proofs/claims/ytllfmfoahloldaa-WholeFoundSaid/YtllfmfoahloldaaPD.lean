/- The plain law of the search: what Check answers; no program in sight. -/
import Derived.Test.YtllfmfoahloldaaPC
import Derived.Test.YtllfmfoahloldaaFC
set_option linter.unusedVariables false
set_option linter.unusedSimpArgs false
namespace Go.HL.Try
open Go.HL
def ones (ks : List K4) : List (K4 × Int) := ks.map fun k => (k, 1)
theorem ones_app (a b : List K4) : ones (a ++ b) = ones a ++ ones b := List.map_append
theorem findM_ones {k : K4} : ∀ (ks : List K4) (i : Nat), k ∉ ks → findM (ones ks) k i = none
  | [], _, _ => rfl
  | a :: ks, i, h => by
    have h1 : k ≠ a := fun e => h (by rw [e]; exact List.mem_cons_self ..)
    have h2 : k ∉ ks := fun e => h (List.mem_cons_of_mem _ e)
    unfold ones
    rw [List.map_cons]
    unfold findM
    simp only
    rw [if_neg h1]
    exact findM_ones ks (i + 1) h2
theorem modify_last {α : Type} (l : List α) (a : α) (f : α → α) : (l ++ [a]).modify l.length f = l ++ [f a] := by
  induction l with
  | nil => rfl
  | cons b l ih => simp only [List.cons_append, List.length_cons, List.modify_succ_cons, ih]
theorem cover_one {k : K4} {ks : List K4} (h : k ∉ ks) : ((entM (ones ks) k 0).1).modify ((entM (ones ks) k 0).2.2) (fun e => (e.1, w64 ((getM (ones ks) k 0) + 1))) = ones (ks ++ [k]) := by
  have e1 : entM (ones ks) k 0 = (ones ks ++ [(k, 0)], 0, (ones ks).length) := by
    unfold entM; rw [findM_ones ks 0 h]
  have e2 : getM (ones ks) k 0 = 0 := by
    unfold getM; rw [findM_ones ks 0 h]
  rw [e1, e2]
  simp only
  rw [modify_last, ones_app, w64s (by omega) (by omega)]
  rfl
def keysB (x0 y0 x1 y1 tu sc : Int) : List K4 := (irange y0 y1).flatMap fun y => (irange x0 x1).map fun x => (x, y, tu, sc)
theorem keysA_B (a : A6) : keysA a = keysB a.1 a.2.1 a.2.2.1 a.2.2.2.1 a.2.2.2.2.1 a.2.2.2.2.2 := by
  unfold keysA keysB posesA poses
  rw [List.map_flatMap]
  congr 1
  funext y
  rw [List.map_map]; rfl
theorem notin_of {α : Type} {a b : List α} {k : α} (h : (a ++ k :: b).Nodup) : k ∉ a := by
  rw [List.nodup_append] at h
  intro hk
  exact h.2.2 k hk k (List.mem_cons_self ..) rfl
theorem f26_l1_eq {X1 tu sc y : Int} (hX : X1 ≤ 100) : ∀ (n : Nat) (x : Int) (k : Nat) (ks : List K4), (X1 + 1 - x).toNat = n → n < k → 0 ≤ x → x ≤ 1000 → (ks ++ (irange x X1).map fun x => ((x, y, tu, sc) : K4)).Nodup →
    f26_l1 X1 tu sc y k x (ones ks) = some (ones (ks ++ (irange x X1).map fun x => (x, y, tu, sc))) := by
  intro n
  induction n with
  | zero =>
    intro x k ks hn hk hx hx2 hd
    obtain ⟨k, rfl⟩ : ∃ k', k = k' + 1 := ⟨k - 1, by omega⟩
    unfold f26_l1
    rw [if_neg (by omega), irange_nil (by omega), List.map_nil, List.append_nil]
  | succ n ih =>
    intro x k ks hn hk hx hx2 hd
    obtain ⟨k, rfl⟩ : ∃ k', k = k' + 1 := ⟨k - 1, by omega⟩
    unfold f26_l1
    rw [irange_cons (by omega), List.map_cons] at hd ⊢
    rw [if_pos (by omega), cover_one (notin_of hd), w64s (x := x + 1) (by omega) (by omega), ih (x + 1) k _ (by omega) (by omega) (by omega) (by omega) (by simpa using hd)]
    simp
theorem f26_l0_eq {X0 X1 Y1 tu sc : Int} (hX0 : 0 ≤ X0) (hX01 : X0 ≤ 100) (hX : X1 ≤ 100) (hY : Y1 ≤ 100) : ∀ (n : Nat) (y : Int) (k : Nat) (ks : List K4), (Y1 + 1 - y).toNat = n → n < k → 0 ≤ y → y ≤ 1000 → (ks ++ keysB X0 y X1 Y1 tu sc).Nodup →
    f26_l0 X0 X1 Y1 tu sc k y (ones ks) = some (ones (ks ++ keysB X0 y X1 Y1 tu sc)) := by
  intro n
  induction n with
  | zero =>
    intro y k ks hn hk hy hy2 hd
    obtain ⟨k, rfl⟩ : ∃ k', k = k' + 1 := ⟨k - 1, by omega⟩
    unfold f26_l0 keysB
    rw [if_neg (by omega), irange_nil (a := y) (b := Y1) (by omega), List.flatMap_nil, List.append_nil]
  | succ n ih =>
    intro y k ks hn hk hy hy2 hd
    obtain ⟨k, rfl⟩ : ∃ k', k = k' + 1 := ⟨k - 1, by omega⟩
    have e : keysB X0 y X1 Y1 tu sc = ((irange X0 X1).map fun x => ((x, y, tu, sc) : K4)) ++ keysB X0 (y + 1) X1 Y1 tu sc := by
      unfold keysB
      rw [irange_cons (a := y) (b := Y1) (by omega), List.flatMap_cons]
    unfold f26_l0
    rw [e, ← List.append_assoc] at hd ⊢
    rw [if_pos (by omega), f26_l1_eq hX _ X0 FUEL ks rfl (by rw [FUEL_eq]; omega) hX0 (by omega) (hd.sublist (List.sublist_append_left _ _)), Option.bind_some, w64s (x := y + 1) (by omega) (by omega),
      ih (y + 1) k _ (by omega) (by omega) (by omega) (by omega) hd]
theorem f26_eq {W H : Int} {pix : List Int} (p : Pic W H pix) {w h : Int} {t : List Int} (q : Tem w h t) {x0 y0 x1 y1 tu sc : Int} (b : BoxOk W H x0 y0 x1 y1) (h1 : 0 ≤ tu ∧ tu ≤ 11) (h2 : 1 ≤ sc ∧ sc ≤ 4) {ks : List K4} (hd : (ks ++ keysB x0 y0 x1 y1 tu sc).Nodup) :
    f26_m x0 y0 x1 y1 tu sc (ones ks) w h t W H pix = some (bd (sten w h t tu sc) pix W H x0 y0 x1 y1, ones (ks ++ keysB x0 y0 x1 y1 tu sc)) := by
  have := p.w1; have := p.h1; have := b.a0; have := b.a1; have := b.a2; have := b.b0; have := b.b1; have := b.b2
  obtain ⟨e1, hs⟩ := sten_some q h1 h2
  unfold f26_m
  rw [f26_l0_eq (by omega) (by omega) (by omega) (by omega) _ y0 FUEL ks rfl (by rw [FUEL_eq]; omega) (by omega) (by omega) hd]
  simp only [Option.bind_some]
  rw [e1]
  simp only [Option.bind_some]
  rw [f13_eq p hs b]
  rfl
theorem take_succ_map {α β : Type} (f : α → β) (l : List α) (i : Nat) (h : i < l.length) : (l.take (i + 1)).map f = (l.take i).map f ++ [f l[i]] := by
  rw [List.take_succ_eq_append_getElem h, List.map_append]; rfl
theorem take_succ_flat {α β : Type} (f : α → List β) (l : List α) (i : Nat) (h : i < l.length) : (l.take (i + 1)).flatMap f = (l.take i).flatMap f ++ f l[i] := by
  rw [List.take_succ_eq_append_getElem h, List.flatMap_append]; simp
section
variable {W H : Int} {pix : List Int} (p : Pic W H pix) {w h : Int} {t : List Int} (q : Tem w h t) {L : Int} {MS : List M5} {AS : List A6} (F : Found W H pix w h t L 48 MS AS)
include p q F
theorem f18_l0_eq (hd : (MS.map keyM).Nodup) : ∀ (n i k : Nat), MS.length - i = n → n < k → i ≤ MS.length → f18_l0 W H pix w h t L MS k (i : Int) (ones ((MS.take i).map keyM)) = some (Sum.inl (ones (MS.map keyM))) := by
  intro n
  have hl := F.lm
  induction n with
  | zero =>
    intro i k hn hk hi
    obtain ⟨k, rfl⟩ : ∃ k', k = k' + 1 := ⟨k - 1, by omega⟩
    unfold f18_l0
    rw [if_neg (by omega), List.take_of_length_le (by omega)]
  | succ n ih =>
    intro i k hn hk hi
    obtain ⟨k, rfl⟩ : ∃ k', k = k' + 1 := ⟨k - 1, by omega⟩
    have hi' : i < MS.length := by omega
    have hm := F.m _ (List.getElem_mem hi')
    have hkb : keysB MS[i].1 MS[i].2.1 MS[i].1 MS[i].2.1 MS[i].2.2.1 MS[i].2.2.2.1 = [keyM MS[i]] := by
      unfold keysB; rw [irange_one, irange_one]; rfl
    have hd2 : ((MS.take i).map keyM ++ keysB MS[i].1 MS[i].2.1 MS[i].1 MS[i].2.1 MS[i].2.2.1 MS[i].2.2.2.1).Nodup := by
      rw [hkb, ← take_succ_map keyM MS i hi']
      exact hd.sublist ((List.take_sublist _ _).map _)
    unfold f18_l0
    rw [at_nat MS i hi', if_pos (by omega), if_pos (by omega)]
    unfold f27_m
    simp only [Option.bind_some]
    rw [f28_true p hm.box hm.ta hm.c]
    simp only [Option.bind_some]
    have hle := hm.l
    rw [if_neg (by decide), if_neg (by omega), f26_eq p q hm.box hm.ta hm.c hd2]
    simp only [Option.bind_some]
    rw [if_neg (fun hn => hn hm.d.symm), w64s (x := (i : Int) + 1) (by omega) (by omega), hkb, ← take_succ_map keyM MS i hi', show ((i : Int) + 1) = ((i + 1 : Nat) : Int) by omega]
    exact ih (i + 1) k (by omega) (by omega) (by omega)
theorem f18_l1_eq (hd : (MS.map keyM ++ AS.flatMap keysA).Nodup) : ∀ (n i k : Nat), AS.length - i = n → n < k → i ≤ AS.length → f18_l1 W H pix w h t L AS k (i : Int) (ones (MS.map keyM ++ (AS.take i).flatMap keysA)) = some (Sum.inl (ones (MS.map keyM ++ AS.flatMap keysA))) := by
  intro n
  have hl := F.la
  induction n with
  | zero =>
    intro i k hn hk hi
    obtain ⟨k, rfl⟩ : ∃ k', k = k' + 1 := ⟨k - 1, by omega⟩
    unfold f18_l1
    rw [if_neg (by omega), List.take_of_length_le (by omega)]
  | succ n ih =>
    intro i k hn hk hi
    obtain ⟨k, rfl⟩ : ∃ k', k = k' + 1 := ⟨k - 1, by omega⟩
    have hi' : i < AS.length := by omega
    have hm := F.a _ (List.getElem_mem hi')
    have hkb := keysA_B AS[i]
    have hd2 : (MS.map keyM ++ (AS.take i).flatMap keysA ++ keysB AS[i].1 AS[i].2.1 AS[i].2.2.1 AS[i].2.2.2.1 AS[i].2.2.2.2.1 AS[i].2.2.2.2.2).Nodup := by
      rw [← hkb, List.append_assoc, ← take_succ_flat keysA AS i hi']
      refine hd.sublist (List.Sublist.append (List.Sublist.refl _) ?_)
      have e : AS.flatMap keysA = (AS.take (i + 1)).flatMap keysA ++ (AS.drop (i + 1)).flatMap keysA := by rw [← List.flatMap_append, List.take_append_drop]
      rw [e]; exact List.sublist_append_left _ _
    unfold f18_l1
    rw [at_nat AS i hi', if_pos (by omega), if_pos (by omega), f28_true p hm.box hm.ta hm.c]
    simp only [Option.bind_some]
    have hle := hm.d
    rw [if_neg (by decide), f26_eq p q hm.box hm.ta hm.c hd2]
    simp only [Option.bind_some]
    rw [if_neg (by omega), w64s (x := (i : Int) + 1) (by omega) (by omega), ← hkb, List.append_assoc, ← take_succ_flat keysA AS i hi', show ((i : Int) + 1) = ((i + 1 : Nat) : Int) by omega]
    exact ih (i + 1) k (by omega) (by omega) (by omega)
end
theorem poses_nodup (x0 y0 x1 y1 : Int) : (poses x0 y0 x1 y1).Nodup := by
  unfold poses List.Nodup
  rw [List.pairwise_flatMap]
  refine ⟨fun y _ => ?_, ?_⟩
  · rw [List.pairwise_map]
    exact (irange_pair x0 x1).imp fun {a b} hab e => by
      have := congrArg Prod.fst e
      simp at this; omega
  · refine (irange_pair y0 y1).imp fun {a b} hab => ?_
    intro q hq r hr e
    obtain ⟨_, _, rfl⟩ := List.mem_map.1 hq
    obtain ⟨_, _, rfl⟩ := List.mem_map.1 hr
    have := congrArg Prod.snd e
    simp at this; omega
theorem allKeys_nodup (W H : Int) (n : Nat) : (allKeys W H n).Nodup := by
  unfold allKeys List.Nodup
  rw [List.pairwise_flatMap]
  refine ⟨fun j _ => ?_, ?_⟩
  · unfold keysJ
    rw [List.pairwise_map]
    exact (poses_nodup 0 0 (W - 1) (H - 1)).imp fun {a b} hab e => by
      apply hab
      have h1 := congrArg Prod.fst e
      have h2 := congrArg (fun z => z.2.1) e
      simp at h1 h2
      exact Prod.ext h1 h2
  · have hr : (List.range n).Pairwise (· < ·) := List.pairwise_lt_range
    refine hr.imp fun {a b} hab => ?_
    intro q hq r hr e
    obtain ⟨_, _, rfl⟩ := List.mem_map.1 hq
    obtain ⟨_, _, rfl⟩ := List.mem_map.1 hr
    have h1 := congrArg (fun z => z.2.2.1) e
    have h2 := congrArg (fun z => z.2.2.2) e
    simp at h1 h2
    omega
theorem allKeys_len {W H : Int} (hW : 1 ≤ W) (hH : 1 ≤ H) (n : Nat) : ((allKeys W H n).length : Int) = n * (W * H) := by
  induction n with
  | zero => simp [allKeys]
  | succ n ih =>
    have e3 : allKeys W H (n + 1) = allKeys W H n ++ keysJ W H n := by
      unfold allKeys
      rw [List.range_succ, List.flatMap_append]; simp
    have e4 : ((keysJ W H n).length : Int) = W * H := by
      unfold keysJ
      rw [List.length_map, poses_len, Int.natCast_mul, show (H - 1 + 1 - 0).toNat = H.toNat by omega, show (W - 1 + 1 - 0).toNat = W.toNat by omega, Int.toNat_of_nonneg (by omega), Int.toNat_of_nonneg (by omega), Int.mul_comm]
    rw [e3, List.length_append, Int.natCast_add, ih, e4, Int.natCast_add, Int.add_mul]
    simp
theorem f18_true {W H : Int} {pix : List Int} (p : Pic W H pix) {w h : Int} {t : List Int} (q : Tem w h t) {L : Int} {MS : List M5} {AS : List A6} (F : Found W H pix w h t L 48 MS AS) : f18_m W H pix w h t L MS AS = some true := by
  have hd : (MS.map keyM ++ AS.flatMap keysA).Nodup := F.cov.nodup_iff.2 (allKeys_nodup W H 48)
  have hd0 : (MS.map keyM).Nodup := hd.sublist (List.sublist_append_left _ _)
  have hl := F.lm; have hla := F.la
  have hlen := F.cov.length_eq
  have h48 := allKeys_len (W := W) (H := H) p.w0 p.h0 48
  have hpl := p.len; have har := p.area
  unfold f18_m
  have e0 := f18_l0_eq p q F hd0 MS.length 0 FUEL (by omega) (by rw [FUEL_eq]; omega) (by omega)
  have e1 := f18_l1_eq p q F hd AS.length 0 FUEL (by omega) (by rw [FUEL_eq]; omega) (by omega)
  rw [List.take_zero, List.map_nil] at e0
  rw [List.take_zero, List.flatMap_nil, List.append_nil] at e1
  rw [show f18_l0 W H pix w h t L MS FUEL 0 ([] : List (K4 × Int)) = some (Sum.inl (ones (MS.map keyM))) from e0]
  unfold lb
  simp only
  rw [show f18_l1 W H pix w h t L AS FUEL 0 (ones (MS.map keyM)) = some (Sum.inl (ones (MS.map keyM ++ AS.flatMap keysA))) from e1]
  simp only
  rw [if_pos (fun x hx => by obtain ⟨_, _, rfl⟩ := List.mem_map.1 hx; rfl)]
  have e2 : (ones (MS.map keyM ++ AS.flatMap keysA)).length = (allKeys W H 48).length := by
    unfold ones; rw [List.length_map, hlen]
  rw [e2, hpl, w64s (x := W * H * 12) (by omega) (by omega), w64s (x := W * H * 12 * 4) (by omega) (by omega), h48]
  simp
  omega
theorem f6_zero {W H : Int} {pix : List Int} (p : Pic W H pix) {w h : Int} {t : List Int} (q : Tem w h t) {L : Int} (hL : 0 ≤ L ∧ L ≤ 1000) {MS : List M5} {AS : List A6} (F : Found W H pix w h t L 48 MS AS) : f6_m W H pix w h t L MS AS = some 0 := by
  unfold f6_m
  rw [f8_zero p q]
  simp only [Option.bind_some]
  rw [if_neg (by simp), f9_true (allIn1 ⟨by omega, by omega⟩) (by simp)]
  simp only [Option.bind_some]
  rw [if_neg (by decide), f18_true p q F]
  rfl
end Go.HL.Try
