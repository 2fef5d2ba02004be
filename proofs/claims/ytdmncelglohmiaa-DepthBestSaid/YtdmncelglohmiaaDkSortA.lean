/- Rows of slices as the sort's. -/
import Derived.Test.YtdmncelglohmiaaK3
import Derived.Shelf.SlSortCmp.NoneTotal
namespace Go.Dk
open Go Go.RowKit Go.Sort
set_option linter.unusedSimpArgs false
set_option linter.unusedVariables false

variable {L : LTy} [Inhabited L.α] {w : World}

theorem flatK_flat (xs : List L.α) : flatK L.cells L.n xs.toArray = (xs.flatMap L.cells).toArray := by
  refine ext_get! (by rw [size_flatK, List.size_toArray, List.size_toArray, flat_len]) fun t ht => ?_
  rw [size_flatK] at ht
  rw [get_flatK _ _ _ _ ht]
  have hn : 0 < L.n := by
    rcases Nat.eq_zero_or_pos L.n with h | h
    · rw [h] at ht; simp at ht
    · exact h
  have hi : t / L.n < xs.length := by
    rw [Nat.div_lt_iff_lt_mul hn]; simpa using ht
  have hx : xs[t / L.n]? = some xs[t / L.n] := List.getElem?_eq_getElem hi
  have hg := flat_get xs (t / L.n) _ hx
  have hm : t % L.n < L.n := Nat.mod_lt _ hn
  have hft : t < (xs.flatMap L.cells).length := by rw [flat_len]; simpa using ht
  have e1 : (xs.flatMap L.cells).toArray[t]! = (xs.flatMap L.cells)[t] := by
    rw [getElem!_pos _ t (by simpa using hft)]; simp
  have e2 : xs.toArray[t / L.n]! = xs[t / L.n] := by rw [getElem!_pos _ _ (by simpa using hi)]; simp
  rw [e1, e2]
  have hl : t % L.n < (L.cells xs[t / L.n]).length := by rw [L.h_len]; exact hm
  rw [getElem!_pos (L.cells xs[t / L.n]) (t % L.n) hl]
  have e3 : (L.cells xs[t / L.n])[t % L.n]? = (xs.flatMap L.cells)[t]? := by
    rw [← hg, List.getElem?_take, if_pos hm, List.getElem?_drop]
    congr 1
    rw [Nat.mul_comm]; exact Nat.div_add_mod t L.n
  rw [List.getElem?_eq_getElem hl, List.getElem?_eq_getElem hft] at e3
  exact Option.some.inj e3

theorem holds_of {b off : Nat} {l : Array Value} {e : TypeId} {xs : List L.α} (hb : w.heap[b]? = some (.cells l e)) (hc : (l.toList.drop off).take (xs.length * L.n) = xs.flatMap L.cells) : HoldsK L.cells L.n w b off xs.toArray := by
  intro t ht
  rw [flatK_flat]
  have ht' : t < (xs.flatMap L.cells).length := by simpa [flatK_flat] using ht
  have ht2 : t < xs.length * L.n := by rw [flat_len] at ht'; exact ht'
  constructor
  · unfold World.cell?
    simp only [hb]
    rw [getElem!_pos _ t (by simpa using ht')]
    have : (xs.flatMap L.cells)[t]? = l[off + t]? := by
      rw [← hc, List.getElem?_take, if_pos ht2, List.getElem?_drop]; simp
    simp only [Option.isSome_none, Bool.false_eq_true, if_false]
    rw [← this, List.getElem?_eq_getElem ht']
    simp
  · unfold World.frozen?
    simp [hb]

theorem grow_heap (w : World) (os : Array Obj) {k : Nat} (h : k < w.heap.size) : (grow w os).heap[k]? = w.heap[k]? := by
  unfold grow
  exact Array.getElem?_append_left h
theorem putRow_heap {b off : Nat} {F : Array Value} {l : Array Value} {e : TypeId} {fz : Nat × Nat} (hb : w.heap[b]? = some (.cells l e fz)) : (putRow id w b off F).heap[b]? = some (.cells (putCells id off F l) e fz) := by
  unfold putRow mapBlock
  simp only [Array.getElem?_modify, if_true, hb]
  rfl
theorem putRow_heap_ne {b off k : Nat} {F : Array Value} (hk : k ≠ b) : (putRow id w b off F).heap[k]? = w.heap[k]? := by
  unfold putRow mapBlock
  simp only [Array.getElem?_modify, if_neg (Ne.symm hk)]

theorem sorted_world {b off m : Nat} {l : Array Value} {e : TypeId} {xs : List L.α} {d : Array L.α} {os : Array Obj} (hb : w.heap[b]? = some (.cells l e)) (hs : d.size = xs.length) (hl : off + xs.length * L.n ≤ l.size) :
    Ch [b] w (Go.Proofs.sortWorldK L.cells L.n w b off m d os) ∧ ∃ l', (Go.Proofs.sortWorldK L.cells L.n w b off m d os).heap[b]? = some (.cells l' e) ∧ l'.size = l.size ∧ (l'.toList.drop off).take (d.size * L.n) = d.toList.flatMap L.cells := by
  unfold Go.Proofs.sortWorldK putRowK
  have hlt := hp_lt hb
  have hb' : (Sort.ahead w m).heap[b]? = some (.cells l e) := hb
  constructor
  · refine ⟨rfl, rfl, rfl, ?_, ?_⟩
    · show w.heap.size ≤ ((putRow id (Sort.ahead w m) b off _).heap ++ os).size
      rw [Array.size_append, size_putRow]
      show w.heap.size ≤ w.heap.size + os.size
      omega
    · intro k hk hkb
      rw [grow_heap _ _ (by rw [size_putRow]; exact hk), putRow_heap_ne (by simpa using hkb)]
      rfl
  · refine ⟨putCells id off (flatK L.cells L.n d) l, ?_, ?_, ?_⟩
    · rw [grow_heap _ _ (by rw [size_putRow]; exact hlt)]
      exact putRow_heap hb'
    · simp [putCells]
    · have e1 : flatK L.cells L.n d = (d.toList.flatMap L.cells).toArray := by
        have := flatK_flat (L := L) d.toList
        simpa using this
      rw [e1]
      apply List.ext_getElem?
      intro t
      rw [List.getElem?_take]
      have hfl := flat_len (L := L) d.toList
      simp only [Array.length_toList] at hfl
      by_cases ht : t < d.size * L.n
      · rw [if_pos ht, List.getElem?_drop]
        unfold putCells
        simp only [Array.getElem?_toList, Array.getElem?_mapIdx]
        have h1 : off + t < l.size := by rw [← hs] at hl; omega
        have h2 : t < (d.toList.flatMap L.cells).length := by rw [hfl]; exact ht
        rw [Array.getElem?_eq_getElem h1]
        simp only [Option.map_some]
        rw [if_pos ⟨by omega, by simp only [List.size_toArray]; omega⟩]
        rw [show off + t - off = t by omega, getElem!_pos _ t (by simpa using h2)]
        rw [List.getElem?_eq_getElem h2]
        simp
      · rw [if_neg ht, List.getElem?_eq_none (by rw [hfl]; omega)]


theorem pairwise_of {α : Type} [Inhabited α] {lt : α → α → Bool} {d : Array α} {n : Nat} (hn : n = d.size) (h : SortedIn lt 0 n d) : d.toList.Pairwise fun x y => lt y x = false := by
  subst hn
  rw [List.pairwise_iff_getElem]
  intro i j hi hj hij
  have := h i j (Nat.zero_le _) hij (by simpa using hj)
  rw [getElem!_pos d j (by simpa using hj), getElem!_pos d i (by simpa using hi)] at this
  simpa using this

open Go.Proofs in
/-- a sort of one's own slice -/
theorem sort_any {P : Program} {f g : Nat} {cb : Array Value} {cf : L.α → L.α → Int} {s : Sl} {xs : List L.α} {K : Unit → World → Prop}
    (hnone : ∀ (p : Option Addr) (cap : Nat) w, Calls P f #[.slice p 0 cap, .func (.func g) #[] cb] w fun e w' => e = .returned (.tuple #[]) ∧ w' = w)
    (hsome : ∀ (blk off cap : Nat) (d : Array L.α) (w : World), CmpLays P g cb L.cells L.n cf blk off d.size w → HoldsK L.cells L.n w blk off d → blk < w.heap.size → d.size < 4611686018427387904 →
      Calls P f #[.slice (some ⟨blk, off, none⟩) d.size cap, .func (.func g) #[] cb] w fun e w' => e = .returned (.tuple #[]) ∧ ∃ d' n os, PermIn 0 d.size d d' ∧ SortedIn (ltOf cf) 0 d.size d' ∧ w' = sortWorldK L.cells L.n w blk off n d' os)
    (hagg : L.agg = true)
    (hcmp : ∀ W, Ch (blks s) w W → ∀ x y, Calls P g (#[L.enc x, L.enc y] ++ cb) W fun e w' => e = .returned (.int .i64 (cf x y)) ∧ ∃ q os', w' = grow (W.drewN q) os')
    (hs : slOwn L w s xs) (hlen : xs.length < 2305843009213693952)
    (hk : ∀ w' ys, Ch (blks s) w w' → slOwn L w' s ys → ys.Perm xs → (ys.Pairwise fun x y => ltOf cf y x = false) → K () w') :
    cl P lUnit f #[.slice s.a s.len s.cap, .func (.func g) #[] cb] K w := by
  obtain ⟨h1, h2, h3⟩ := hs
  have hs : slOwn L w s xs := ⟨h1, h2, h3⟩
  rcases h3 with ⟨h3, h4⟩ | ⟨b, off, l, e, h4, h5, h6, h7⟩
  · have hz : s.len = 0 := by omega
    have hx : xs = [] := by
      cases xs with
      | nil => rfl
      | cons => simp at h1; omega
    subst hx
    rw [hz]
    refine (hnone s.a s.cap w).mono fun e w' ⟨he, hw⟩ => ?_
    subst hw
    exact ⟨(), he, hk w' [] (Ch.refl _ _) hs (List.Perm.refl _) List.Pairwise.nil⟩
  · have hcap : s.len * L.n ≤ s.cap * L.n := Nat.mul_le_mul_right _ h2
    have hl : off + xs.length * L.n ≤ l.size := by rw [← h1]; omega
    have hH : HoldsK L.cells L.n w b off xs.toArray := holds_of h5 (by rw [← h1]; exact h7)
    have hsz : xs.toArray.size = xs.length := by simp
    have hcon := hsome b off s.cap xs.toArray w (by
        intro m os dk hdk x y
        have hc := (sorted_world (L := L) (m := m) (os := os) (d := dk) (xs := xs) h5 (hdk.trans hsz) hl).1
        have := hcmp _ (hc.mono (by simp [blks, h4])) x y
        rw [L.h_agg hagg, L.h_agg hagg] at this
        exact this) hH (hp_lt h5) (by rw [hsz]; omega)
    have harg : (#[.slice s.a s.len s.cap, .func (.func g) #[] cb] : Array Value) = #[.slice (some ⟨b, off, none⟩) xs.toArray.size s.cap, .func (.func g) #[] cb] := by
      rw [h4, h1, hsz]
    rw [harg]
    refine hcon.mono fun e' w' ⟨he, d', n, os, hperm, hsort, hw⟩ => ?_
    have hd' : d'.size = xs.length := hperm.1.trans hsz
    have hpm : d'.toList.Perm xs := by
      have := hperm.2.2
      rw [show xs.toArray.size = d'.size by rw [hsz, hd']] at this
      have e1 : d'.extract 0 d'.size = d' := by simp
      have e2 : xs.toArray.extract 0 d'.size = xs.toArray := by rw [hd']; simp
      rw [e1, e2] at this
      simpa using this
    obtain ⟨hch, l', g1, g2, g3⟩ := sorted_world (L := L) (m := n) (os := os) (d := d') (xs := xs) h5 hd' hl
    rw [← hw] at hch g1
    refine ⟨(), he, hk w' d'.toList (hch.mono (by simp [blks, h4])) ⟨by rw [h1, ← hd']; simp, h2, .inr ⟨b, off, l', e, h4, g1, by rw [g2]; exact h6, ?_⟩⟩ hpm ?_⟩
    · rw [h1, ← hd']; exact g3
    · exact pairwise_of (by rw [hsz, hd']) hsort

end Go.Dk
