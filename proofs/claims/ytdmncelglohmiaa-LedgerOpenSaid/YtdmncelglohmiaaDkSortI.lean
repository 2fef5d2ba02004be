/- Sorting one's own numbers. -/
import Derived.Test.YtdmncelglohmiaaK3
import Derived.Shelf.SortM.Plain
import Derived.Shelf.SortM.SortNone
namespace Go.Dk
open Go Go.RowKit
set_option linter.unusedSimpArgs false
set_option linter.unusedVariables false

theorem grow_heapI (w : World) (os : Array Obj) {k : Nat} (h : k < w.heap.size) : (Go.Sort.grow w os).heap[k]? = w.heap[k]? := by
  unfold Go.Sort.grow
  exact Array.getElem?_append_left h
theorem flat_ints (xs : List Int) : xs.flatMap (lInt .i64).cells = xs.map (Value.int .i64) := by
  induction xs with
  | nil => rfl
  | cons x r ih =>
    have : (x :: r).flatMap (fun n : Int => [Value.int .i64 n]) = (Value.int .i64 x) :: r.map (Value.int .i64) := by
      rw [List.flatMap_cons]; exact congrArg _ ih
    exact this

theorem sort_ints {P : Program} {f : Nat} {s : Sl} {xs : List Int} {w : World} {K : Unit → World → Prop}
    (hnone : ∀ (p : Option Addr) (cap : Nat) (w : World), Calls P f #[.slice p 0 cap] w fun e w' => e = .returned (.tuple #[]) ∧ w' = w)
    (hsome : ∀ (blk off cap : Nat) (zs : List Int) (w : World), Go.Sort.Holds (Value.int .i64) w blk off zs.toArray → blk < w.heap.size → zs.length < 4611686018427387904 →
      Calls P f #[.slice (some ⟨blk, off, none⟩) zs.length cap] w fun e w' => e = .returned (.tuple #[]) ∧ ∃ n os, w' = Go.Sort.grow (Go.Sort.putRow (Value.int .i64) (Go.Sort.ahead w n) blk off (zs.mergeSort fun x y => decide (x ≤ y)).toArray) os)
    (hs : slOwn (lInt .i64) w s xs) (hlen : xs.length < 4611686018427387904)
    (hk : ∀ w', Ch (blks s) w w' → slOwn (lInt .i64) w' s (xs.mergeSort fun x y => decide (x ≤ y)) → K () w') : cl P lUnit f #[.slice s.a s.len s.cap] K w := by
  have hs0 := hs
  obtain ⟨h1', h2, h3⟩ := hs
  have h1 : s.len = List.length (α := Int) xs := h1'
  rcases h3 with ⟨h3, h4⟩ | ⟨b, off, l, e, h4, h5, h6, h7⟩
  · have hz : s.len = 0 := by omega
    have hx : xs = [] := by
      cases xs with
      | nil => rfl
      | cons => simp at h1; omega
    subst hx
    rw [hz]
    refine (hnone s.a s.cap w).mono fun e w' ⟨he, hw⟩ => ?_
    subst hw
    have e : (([] : List Int).mergeSort fun x y => decide (x ≤ y)) = [] := by simp
    rw [e] at hk
    exact ⟨(), he, hk w' (Ch.refl _ _) hs0⟩
  · have e1 : (lInt .i64).n = 1 := rfl
    rw [e1, Nat.mul_one] at h6 h7
    have h7' : (l.toList.drop off).take s.len = xs.map (Value.int .i64) := by rw [h7]; exact flat_ints xs
    have hH : Go.Sort.Holds (Value.int .i64) w b off xs.toArray := by
      intro j hj
      have hj' : j < xs.length := by simpa using hj
      constructor
      · unfold World.cell?
        simp only [h5]
        have : (l.toList.drop off)[j]? = (xs.map (Value.int .i64))[j]? := by
          rw [← h7', List.getElem?_take, if_pos (by omega)]
        rw [List.getElem?_drop] at this
        simp only [Option.isSome_none, Bool.false_eq_true, if_false]
        have h8 : l[off + j]? = (xs.map (Value.int .i64))[j]? := by rw [← this]; simp
        rw [h8, getElem!_pos _ j (by simpa using hj')]
        simp [hj']
      · unfold World.frozen?
        simp [h5]
    have hlt := hp_lt h5
    have harg : (#[.slice s.a s.len s.cap] : Array Value) = #[.slice (some ⟨b, off, none⟩) xs.length s.cap] := by rw [h4, h1]
    rw [harg]
    refine (hsome b off s.cap xs w hH hlt hlen).mono fun e' w' ⟨he, n, os, hw⟩ => ?_
    generalize hys : (xs.mergeSort fun x y => decide (x ≤ y)) = ys at *
    have hyl : ys.length = xs.length := by rw [← hys]; exact List.length_mergeSort ..
    have hb' : (Go.Sort.ahead w n).heap[b]? = some (.cells l e) := h5
    have hsz : (Go.Sort.putRow (Value.int .i64) (Go.Sort.ahead w n) b off ys.toArray).heap.size = w.heap.size := by rw [Go.Sort.size_putRow]; rfl
    refine ⟨(), he, hk w' ?_ ⟨by show s.len = ys.length; rw [hyl]; exact h1, h2, .inr ⟨b, off, Go.Sort.putCells (Value.int .i64) off ys.toArray l, e, h4, ?_, ?_, ?_⟩⟩⟩
    · rw [hw]
      refine ⟨rfl, rfl, rfl, ?_, ?_⟩
      · show w.heap.size ≤ ((Go.Sort.putRow (Value.int .i64) (Go.Sort.ahead w n) b off ys.toArray).heap ++ os).size
        rw [Array.size_append, hsz]; omega
      · intro k hk hkb
        rw [grow_heapI _ _ (by rw [hsz]; exact hk)]
        have hkb' : k ≠ b := by simpa [blks, h4] using hkb
        unfold Go.Sort.putRow Go.Sort.mapBlock
        simp only [Array.getElem?_modify, if_neg (Ne.symm hkb')]
        rfl
    · rw [hw, grow_heapI _ _ (by rw [hsz]; exact hlt)]
      unfold Go.Sort.putRow Go.Sort.mapBlock
      simp only [Array.getElem?_modify, if_true, hb']
      rfl
    · rw [e1, Nat.mul_one]; simp [Go.Sort.putCells]; exact h6
    · rw [e1, Nat.mul_one]
      show _ = ys.flatMap (lInt .i64).cells
      rw [flat_ints]
      apply List.ext_getElem?
      intro t
      rw [List.getElem?_take]
      by_cases ht : t < s.len
      · rw [if_pos ht, List.getElem?_drop]
        unfold Go.Sort.putCells
        simp only [Array.getElem?_toList, Array.getElem?_mapIdx]
        have g1 : off + t < l.size := by omega
        have g2 : t < ys.length := by omega
        rw [Array.getElem?_eq_getElem g1]
        simp only [Option.map_some]
        rw [if_pos ⟨by omega, by simp only [List.size_toArray]; omega⟩]
        rw [show off + t - off = t by omega, getElem!_pos _ t (by simpa using g2)]
        simp [g2]
      · rw [if_neg ht, List.getElem?_eq_none (by rw [List.length_map, hyl]; omega)]
end Go.Dk
