/- slices.SortFunc at the matches, off the shelf. -/
import Derived.Test.YtllfmfoahloldaaFA
import Derived.Test.YtllfmfoahloldaaHL11
import Derived.Test.YtllfmfoahloldaaFS
set_option linter.unusedVariables false
set_option linter.unusedSimpArgs false
set_option maxRecDepth 100000
set_option maxHeartbeats 400000
namespace Go.HL.Try
open Go.HL Go.Sort Go.Proofs
abbrev M5 := Int × Int × Int × Int × Int
def cmpI (a b : Int) : Int := if a < b then -1 else if b < a then 1 else 0
def cmpM (x y : M5) : Int := if cmpI x.2.1 y.2.1 ≠ 0 then cmpI x.2.1 y.2.1 else cmpI x.1 y.1
theorem f17_eq (a b : Int) : f17_m a b = some (cmpI a b) := by
  unfold f17_m f25_m cmpI
  simp
  split
  · rfl
  · split <;> rfl
theorem f16_eq (a b : Int) : f16_m [a, b] = some (if a ≠ 0 then a else b) := by
  unfold f16_m
  rw [FUEL_eq, show (1000000000 : Nat) = 999999997 + 1 + 1 + 1 from rfl]
  unfold f16_l0
  by_cases h : a = 0
  · subst h
    simp [at']
    unfold f16_l0
    rw [show w64 1 = 1 from by decide]
    by_cases h2 : b = 0
    · subst h2
      simp [at']
      unfold f16_l0
      rw [show w64 2 = 2 from by decide]
      simp [lb]
    · simp [at', h2, lb]
  · simp [at', h, lb]
theorem f15_eq (x y : M5) : f15_m x.1 x.2.1 x.2.2.1 x.2.2.2.1 x.2.2.2.2 y.1 y.2.1 y.2.2.1 y.2.2.2.1 y.2.2.2.2 = some (cmpM x y) := by
  unfold f15_m cmpM
  simp [f17_eq, f16_eq]
theorem ltM (x y : M5) : ltOf cmpM x y = decide (x.2.1 < y.2.1 ∨ (x.2.1 = y.2.1 ∧ x.1 < y.1)) := by
  unfold ltOf cmpM cmpI
  by_cases h1 : x.2.1 < y.2.1
  · simp [h1]
  · by_cases h2 : y.2.1 < x.2.1
    · simp [h1, h2]; omega
    · have : x.2.1 = y.2.1 := by omega
      by_cases h3 : x.1 < y.1
      · simp [h3, this]
      · by_cases h4 : y.1 < x.1 <;> simp [h3, h4, this]
theorem swoM : SWO (ltOf cmpM) := ⟨fun x => by rw [ltM]; simp, fun x y z h1 h2 => by rw [ltM] at *; simp at *; omega, fun x y z h1 h2 => by rw [ltM] at *; simp at *; omega⟩
def sortA (d : Array M5) : Array M5 := pdq (ltOf cmpM) d 0 d.size (Lib.bitLen d.size) true true
def sortM (X : List M5) : List M5 := (sortA X.toArray).toList
theorem sortA_perm (d : Array M5) : PermIn 0 d.size d (sortA d) ∧ SortedIn (ltOf cmpM) 0 d.size (sortA d) :=
  pdq_sorts (ltOf cmpM) swoM d 0 d.size (Lib.bitLen d.size) true true (Nat.zero_le _) (Nat.le_refl _) (Or.inl rfl)
theorem sortA_size (d : Array M5) : (sortA d).size = d.size := by
  have h := (sortA_perm d).1
  exact h.1
theorem sortM_length (X : List M5) : (sortM X).length = X.length := by
  unfold sortM
  have := sortA_size X.toArray
  simpa using this
def sortTail (X : List M5) (lo : Nat) : Option (List M5) :=
  if X.length ≤ 1099511627776 ∧ X.length = (X.take lo ++ sortM (X.drop lo)).length then some (X.take lo ++ sortM (X.drop lo)) else none
theorem sortTail_eq {X Y : List M5} {lo : Nat} (h : sortTail X lo = some Y) : X.length ≤ 1099511627776 ∧ X.length = Y.length ∧ Y = X.take lo ++ sortM (X.drop lo) := by
  unfold sortTail at h
  split at h
  · rename_i h2; cases h; exact ⟨h2.1, h2.2, rfl⟩
  · cases h
theorem sortTail_len {X Y : List M5} {lo : Nat} (h : sortTail X lo = some Y) : X.length = Y.length := (sortTail_eq h).2.1
theorem cmp15 (blk off size : Nat) (W : World) : CmpLays P 15 #[] enc40 5 cmpM blk off size W := by
  intro m os dk _ x y
  have h := f15_ok x.1 x.2.1 x.2.2.1 x.2.2.2.1 x.2.2.2.2 y.1 y.2.1 y.2.2.1 y.2.2.2.1 y.2.2.2.2 (f15_eq x y) (sat_imOf (sortWorldK enc40 5 W blk off m dk os))
  refine Calls.mono h ?_
  rintro e w' ⟨v, rfl, J, hle, hs, rfl⟩
  exact ⟨rfl, grow_of hs hle⟩
theorem f14_ok {X Y : List M5} {lo c : Nat} {oa : Option Addr} (h : sortTail X lo = some Y) (hlo : lo ≤ X.length) {I : Im} {F : List HP} {w : World} (hs : Sat I (osl 40 5 oa X.length c (X.flatMap enc40) :: F) w) :
    CV P 14 [.slice (so oa c lo 5) (X.length - lo) (c - lo), .func (.func 15) #[] #[]] w fun v w' => v = .tuple #[] ∧ Sat I (osl 40 5 oa X.length c (Y.flatMap enc40) :: F) w' := by
  obtain ⟨h1, h2, rfl⟩ := sortTail_eq h
  have eg : ∀ args w, (callFunc 15 args).run P w = .ok (.enter 15 args) w := enters_of Go.Proofs.Try.func15 (by kernel_rfl) rfl
  exact cv_sort (enc := enc40) (k := 5) (cf := cmpM) (g := 15) (fs := 14) (fun _ => rfl) (by decide) (fun x v hv => by simp [enc40] at hv; rcases hv with rfl | rfl | rfl | rfl | rfl <;> rfl) sortA sortA_size
    (fun p cap fv W => AnyF.slices_SortFunc_none Go.Proofs.Try.sortMatch p cap fv W) cmp15
    (fun blk off cap d W hc hH hb hsz => AnyQ.slices_SortFunc_eq Go.Proofs.Try.sortMatch 5 Go.Proofs.Try.isAgg40 Go.Proofs.Try.sizeOf40 enc40 (fun _ => rfl) (fun x v hv => by simp [enc40] at hv; rcases hv with rfl | rfl | rfl | rfl | rfl <;> rfl) cmpM swoM 15 #[] blk off cap d W eg hc hH hb hsz)
    hlo h1 hs
end Go.HL.Try
