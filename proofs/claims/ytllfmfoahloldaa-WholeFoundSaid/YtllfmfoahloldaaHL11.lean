/- slices.SortFunc off the shelf, in the walks' own terms; it holds of every program. -/
import Derived.Test.YtllfmfoahloldaaHL10
import Derived.Shelf.SlSortCmp.NoneTotal
set_option linter.unusedVariables false
set_option linter.unusedSimpArgs false
set_option linter.unusedSectionVars false
namespace Go.HL
open Go.RowKit Go.Proofs Go.Sort
/-- All that a world holds, as what stays. -/
def imOf (w : World) : Im := ⟨fun b => w.heap[b]?, w.os, w.tape, w.output, w.drawn⟩
theorem sat_imOf (w : World) : Sat (imOf w) [] w := ⟨fun _ _ h => h, rfl, rfl, ⟨rfl, Nat.le_refl _⟩, trivial⟩
theorem grow_of {W w : World} {J : Im} {L : List HP} (hs : Sat J L w) (hle : Im.le (imOf W) J) : ∃ q os', w = Sort.grow (W.drewN q) os' := by
  have hd : W.drawn ≤ w.drawn := by have := hs.output.2; have h2 : J.dn = W.drawn := hle.output.2; omega
  have hold : ∀ b, b < W.heap.size → w.heap[b]? = W.heap[b]? := fun b hb => by
    have h1 : W.heap[b]? = some W.heap[b] := Array.getElem?_eq_getElem hb
    rw [h1]
    exact hs.imm b _ (hle.ph b _ h1)
  have hsz : W.heap.size ≤ w.heap.size := by
    rcases Nat.lt_or_ge w.heap.size W.heap.size with h | h
    · have := hold _ h
      rw [Array.getElem?_eq_getElem h] at this
      simp at this
    · exact h
  refine ⟨w.drawn - W.drawn, w.heap.extract W.heap.size w.heap.size, ?_⟩
  have hheap : w.heap = W.heap ++ w.heap.extract W.heap.size w.heap.size := by
    apply Array.ext_getElem?
    intro i
    rw [Array.getElem?_append]
    split
    · rename_i h; exact hold i h
    · rename_i h
      rw [Array.getElem?_extract]
      split
      · congr 1; omega
      · rename_i h2; rw [Array.getElem?_eq_none]; omega
  cases w with
  | mk heap tape drawn os output =>
    simp only [Sort.grow, World.drewN]
    simp only at hheap hd
    have e1 : os = W.os := hs.os.trans hle.os
    have e2 : tape = W.tape := hs.tape.trans hle.tape
    have e3 : output = W.output := hs.output.1.trans hle.output.1
    subst e1 e2 e3
    congr 1
    omega
section
variable {α : Type} [Inhabited α] {enc : α → List Value} {k : Nat}
theorem fm_get (hk : ∀ x, (enc x).length = k) : ∀ (X : List α) (t : Nat), (X.flatMap enc)[t]? = if t < X.length * k then (enc (X.getD (t / k) default))[t % k]? else none
  | [], t => by simp
  | x :: X, t => by
    rw [List.flatMap_cons, List.getElem?_append, hk x, fm_get hk X (t - k), List.length_cons, Nat.succ_mul]
    by_cases h : t < k
    · rw [if_pos h, if_pos (by omega), Nat.div_eq_of_lt h, Nat.mod_eq_of_lt h]; rfl
    · rw [if_neg h]
      have hk0 : 0 < k ∨ k = 0 := by omega
      by_cases h2 : t - k < X.length * k
      · rw [if_pos h2, if_pos (by omega)]
        have : 0 < k := by rcases hk0 with h3 | h3; exact h3; subst h3; simp at h2
        obtain ⟨u, rfl⟩ : ∃ u, t = u + k := ⟨t - k, by omega⟩
        rw [Nat.add_sub_cancel, Nat.add_mod_right, Nat.add_div_right _ this]
        rfl
      · rw [if_neg h2, if_neg (by omega)]
variable {P : Program} {T : TypeId} {I : Im} {F : List HP} {w : World} {oa : Option Addr} {c fs g : Nat}
theorem cv_sort (hk : ∀ x, (enc x).length = k) (h0k : 0 < k) (h1k : ∀ x, ∀ v ∈ enc x, v.oneCell' = true) {cf : α → α → Int} (srt : Array α → Array α) (hsrt : ∀ d, (srt d).size = d.size)
    (hnone : ∀ (p : Option Addr) (cap : Nat) (fv : Value) (W : World), Calls P fs #[.slice p 0 cap, fv] W fun e w' => e = .returned (.tuple #[]) ∧ w' = W)
    (hcmp : ∀ blk off size W, CmpLays P g #[] enc k cf blk off size W)
    (hsort : ∀ blk off cap (d : Array α) W, CmpLays P g #[] enc k cf blk off d.size W → HoldsK enc k W blk off d → blk < W.heap.size → d.size < 4611686018427387904 →
      Calls P fs #[.slice (some ⟨blk, off, none⟩) d.size cap, .func (.func g) #[] #[]] W fun e w' => e = .returned (.tuple #[]) ∧ ∃ n os, w' = sortWorldK enc k W blk off n (srt d) os)
    {X : List α} {lo : Nat} (hlo : lo ≤ X.length) (hX : X.length ≤ 1099511627776) (hs : Sat I (osl T k oa X.length c (X.flatMap enc) :: F) w) :
    CV P fs [.slice (so oa c lo k) (X.length - lo) (c - lo), .func (.func g) #[] #[]] w fun v w' => v = .tuple #[] ∧ Sat I (osl T k oa X.length c ((X.take lo ++ (srt (X.drop lo).toArray).toList).flatMap enc) :: F) w' := by
  rcases Nat.lt_or_ge lo X.length with h | h
  · obtain ⟨h0, ⟨hlen, hg⟩, hgg, hclose⟩ := hs.focus (k := 0) rfl
    rcases hg with ⟨e0, e1, e2⟩ | ⟨b, cur, e1, e2, e3, e4, e5, e6⟩
    · omega
    · subst e1
      obtain ⟨hb, _⟩ := hgg b _ e2
      have hso : so (some ⟨b, 0, none⟩) c lo k = some ⟨b, lo * k, none⟩ := by
        unfold so
        rw [if_neg (by omega)]
        simp only [Option.map_some, add_none, Nat.zero_add]
      have hblt : b < w.heap.size := lt_of_heap hb
      have hcur : ∀ t, t < X.length * k → cur[t]? = (enc (X.getD (t / k) default))[t % k]? := fun t ht => by
        have := congrArg (fun l => l[t]?) e6
        simp only [List.getElem?_take, if_pos ht, fm_get hk, Array.getElem?_toList] at this
        exact this
      have hck : X.length * k ≤ c * k := Nat.mul_le_mul_right _ e3
      have hH : HoldsK enc k w b (lo * k) (X.drop lo).toArray := by
        intro j hj
        rw [size_flatK] at hj
        simp only [List.size_toArray, List.length_drop] at hj
        have hsub : (X.length - lo) * k = X.length * k - lo * k := Nat.sub_mul _ _ _
        have hlk : lo * k ≤ X.length * k := Nat.mul_le_mul_right _ hlo
        constructor
        · have h3 := hcur (lo * k + j) (by omega)
          have h4 : (lo * k + j) / k = lo + j / k := by rw [Nat.mul_comm, Nat.mul_add_div h0k]
          have h5 : (lo * k + j) % k = j % k := by rw [Nat.mul_comm, Nat.mul_add_mod]
          rw [h4, h5] at h3
          rw [get_flatK _ _ _ _ (by simpa using hj)]
          have h6 : ((X.drop lo).toArray)[j / k]! = X.getD (lo + j / k) default := by
            simp [List.getD_eq_getElem?_getD]
          rw [h6]
          have h7 : j % k < (enc (X.getD (lo + j / k) default)).length := by rw [hk]; exact Nat.mod_lt _ h0k
          simp only [World.cell?, hb, h3]
          show (enc (X.getD (lo + j / k) default))[j % k]? = some ((enc (X.getD (lo + j / k) default))[j % k]!)
          rw [List.getElem?_eq_getElem h7, getElem!_pos (enc (X.getD (lo + j / k) default)) (j % k) h7]
        · simp [World.frozen?, hb]
      have hsz : (X.drop lo).toArray.size < 4611686018427387904 := by
        simp; omega
      have := hsort b (lo * k) (c - lo) (X.drop lo).toArray w (hcmp _ _ _ _) hH hblt hsz
      rw [hso]
      have e9 : (X.drop lo).toArray.size = X.length - lo := by simp
      refine Calls.mono (by rw [e9] at this; exact this) ?_
      rintro e w' ⟨rfl, n, os, rfl⟩
      refine ⟨_, rfl, rfl, ?_⟩
      let d' := srt (X.drop lo).toArray
      have hd' : d'.size = X.length - lo := by rw [hsrt]; simp
      let cur' := putCells id (lo * k) (flatK enc k d') cur
      have hcs : cur'.size = cur.size := by simp [cur', putCells]
      have hnew : (sortWorldK enc k w b (lo * k) n d' os).heap[b]? = some (.cells cur' T (0, 0)) := by
        unfold sortWorldK
        rw [heap_grow_old _ _ (by simp [putRowK, putRow, mapBlock, Sort.ahead, hblt])]
        simp [putRowK, putRow, mapBlock, Sort.ahead, Array.getElem?_modify, hb, onCells, cur']
      refine hclose _ (fun b' => if b' = b then some (.cells cur' T (0, 0)) else none) _ ?_ rfl rfl ⟨rfl, by simp [sortWorldK, Sort.grow, putRowK, putRow, mapBlock, Sort.ahead]⟩ ?_ ?_ ?_
      · have hlen' : (X.take lo ++ d'.toList).length = X.length := by simp [hd']; omega
        have hfl : ((X.take lo ++ d'.toList).flatMap enc).length = X.length * k := by rw [flat_len enc k hk, hlen']
        refine ⟨hfl, .inr ⟨b, cur', rfl, if_pos rfl, e3, e4, by rw [hcs]; exact e5, ?_⟩⟩
        apply List.ext_getElem?
        intro t
        rw [List.getElem?_take]
        by_cases ht : t < X.length * k
        · rw [if_pos ht, fm_get hk, hlen', if_pos ht, Array.getElem?_toList]
          have htc : t < cur.size := by omega
          simp only [cur', putCells, Array.getElem?_mapIdx]
          by_cases h8 : lo * k ≤ t
          · have hsub : (X.length - lo) * k = X.length * k - lo * k := Nat.sub_mul _ _ _
            obtain ⟨j, rfl⟩ : ∃ j, t = lo * k + j := ⟨t - lo * k, by omega⟩
            have h4 : (lo * k + j) / k = lo + j / k := by rw [Nat.mul_comm, Nat.mul_add_div h0k]
            have h5 : (lo * k + j) % k = j % k := by rw [Nat.mul_comm, Nat.mul_add_mod]
            rw [h4, h5, Array.getElem?_eq_getElem htc]
            simp only [Option.map_some, size_flatK, hd']
            rw [if_pos (by omega), Nat.add_sub_cancel_left, get_flatK _ _ _ _ (by rw [hd']; omega)]
            have h6 : (X.take lo ++ d'.toList).getD (lo + j / k) default = d'[j / k]! := by
              rw [List.getD_eq_getElem?_getD, List.getElem?_append_right (by rw [List.length_take]; exact Nat.le_trans (Nat.min_le_left _ _) (Nat.le_add_right _ _))]
              simp only [List.length_take, Nat.min_eq_left hlo, Nat.add_sub_cancel_left]
              simp [Array.getElem!_eq_getD, Array.getD_eq_getD_getElem?]
            rw [h6]
            have h7 : j % k < (enc d'[j / k]!).length := by rw [hk]; exact Nat.mod_lt _ h0k
            simp only [id]
            rw [getElem!_pos (enc d'[j / k]!) (j % k) h7, List.getElem?_eq_getElem h7]
          · have h9 := hcur t ht
            rw [Array.getElem?_eq_getElem htc] at h9 ⊢
            simp only [Option.map_some]
            rw [if_neg (fun h => h8 h.1), h9]
            have h10 : t / k < lo := (Nat.div_lt_iff_lt_mul h0k).2 (Nat.lt_of_not_le h8)
            have h11 : (X.take lo ++ d'.toList).getD (t / k) default = X.getD (t / k) default := by
              rw [List.getD_eq_getElem?_getD, List.getD_eq_getElem?_getD, List.getElem?_append_left (by rw [List.length_take]; exact Nat.lt_min.2 ⟨h10, Nat.lt_of_lt_of_le h10 hlo⟩), List.getElem?_take, if_pos h10]
            rw [h11]
        · rw [if_neg ht, List.getElem?_eq_none (Nat.le_trans (Nat.le_of_eq hfl) (Nat.le_of_not_lt ht))]
      · intro b' o' e
        split at e
        · rename_i hb'; subst hb'; cases e; exact hnew
        · cases e
      · intro b' hb'
        split at hb'
        · rename_i e; subst e; exact .inl (by rw [e2]; rfl)
        · cases hb'
      · intro b' hlt hn
        have hne : b ≠ b' := fun e => by subst e; rw [e2] at hn; cases hn
        unfold sortWorldK
        rw [heap_grow_old _ _ (by simp [putRowK, putRow, mapBlock, Sort.ahead, hlt])]
        simp [putRowK, putRow, mapBlock, Sort.ahead, Array.getElem?_modify, hne]
  · have e : lo = X.length := by omega
    subst e
    have h3 : X.length - X.length = 0 := by omega
    rw [h3]
    refine Calls.mono (hnone _ _ _ w) ?_
    rintro e w' ⟨rfl, rfl⟩
    refine ⟨_, rfl, rfl, ?_⟩
    have h4 : (srt (X.drop X.length).toArray).toList = [] := by
      have := hsrt (X.drop X.length).toArray
      rw [List.drop_length] at this ⊢
      simpa using this
    rw [h4, List.take_length, List.append_nil]
    exact hs
end
end Go.HL
