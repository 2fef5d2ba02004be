/- Arguments of rows: structs of ints, slices of structs of ints. -/
import Derived.Test.YtdmncelglohmiaaK3
import Derived.WalkKit
import Derived.ProofKit
import Derived.OpenShut
import Derived.Below
import Derived.Deep.Slices
import Derived.Deep.Fields
import Derived.ChangeSame
namespace Go.Dk
open Go Go.ChangeShapes Go.WideShapes Go.ChangeAt Go.RowKit Go.Deep
set_option linter.unusedSimpArgs false
set_option linter.unusedVariables false

section
variable {H : Type} {enc : TypeId × Value → H} {P : Program} {w : World} {base : Nat} {spare : Nat → Bool} {held : Bool}
def intsF (P : Program) (fs : Array Field) : Bool := fs.toList.all fun f => match P.underlying f.type with | some (.int .i64) => true | _ => false
def in64 (n : Int) : Prop := -9223372036854775808 ≤ n ∧ n ≤ 9223372036854775807
def vi (n : Int) : Value := .int .i64 n

/-- the cells of a struct of ints -/
theorem trod_istruct {t : TypeId} {fs : Array Field} {fuel : Nat} {cs : List Value} {x : DataW H × List MemPlace} (hs : P.underlying t = some (.struct fs)) (hone : oneCellFields P fs = true) (hi : intsF P fs = true) (hC : P.cellsOf t = fs.size)
    (h : DataW.trod enc P w base spare held fuel t cs = some x) : ∃ ns : List Int, cs = ns.map vi ∧ ns.length = fs.size ∧ ∀ n ∈ ns, in64 n := by
  obtain ⟨xs, n, _, _, hlen, hxl, hf⟩ := DataW.trod_struct hs h
  have key : ∀ j, j < fs.size → ∃ k, cs[j]? = some (.int .i64 k) ∧ in64 k := by
    intro j hj
    have hfj : fs[j]? = some fs[j] := Array.getElem?_eq_getElem hj
    have h1 := hf j _ hfj
    obtain ⟨ho, hk⟩ := hone_of hone j _ hfj
    have hxj : xs[j]? = some (xs[j]'(by omega)) := List.getElem?_eq_getElem (by omega)
    rw [ho, hk, hxj] at h1
    have hu : P.underlying fs[j].type = some (.int .i64) := by
      have := List.all_eq_true.1 hi fs[j] (by simp)
      split at this
      · assumption
      · cases this
    obtain ⟨k, hk1, hk2, hk3⟩ := DataW.trod_int hu h1
    refine ⟨k, ?_, bounds_i64 hk3⟩
    have h2 : ((cs.drop j).take 1)[0]? = some (.int .i64 k) := by rw [hk1]; rfl
    rw [List.getElem?_take, if_pos (by omega), List.getElem?_drop] at h2
    simpa using h2
  have gen : ∀ (cs : List Value), (∀ j, j < cs.length → ∃ k, cs[j]? = some (.int .i64 k) ∧ in64 k) → ∃ ns : List Int, cs = ns.map vi ∧ ∀ n ∈ ns, in64 n := by
    intro cs
    induction cs with
    | nil => intro _; exact ⟨[], rfl, by simp⟩
    | cons c r ih =>
      intro h
      obtain ⟨k, hk, hr⟩ := h 0 (by simp)
      obtain ⟨ns, hns, hr'⟩ := ih (fun j hj => by have := h (j + 1) (by simpa using hj); simpa using this)
      simp at hk
      exact ⟨k :: ns, by rw [hk, hns]; rfl, by simpa using ⟨hr, hr'⟩⟩
  obtain ⟨ns, hns, hr⟩ := gen cs (fun j hj => key j (by omega))
  refine ⟨ns, hns, ?_, hr⟩
  have := congrArg List.length hns
  simp at this
  omega

theorem open_istruct {r : Reach} {b0 : Nat} {t : TypeId} {fs : Array Field} {v : Value} {d : DataW H} {p : List MemPlace} (hs : P.underlying t = some (.struct fs)) (hone : oneCellFields P fs = true) (hi : intsF P fs = true) (hC : P.cellsOf t = fs.size)
    (hv : Value.okWide P w r b0 t v) (h : DataW.Trod enc P w base spare held t v d p) : ∃ ns : List Int, v = .agg (ns.map vi).toArray ∧ ns.length = fs.size ∧ ∀ n ∈ ns, in64 n := by
  obtain ⟨cs, rfl, hsz⟩ := okWide_struct hs hv
  obtain ⟨fuel, hf⟩ := h
  obtain ⟨ns, h1, h2, h3⟩ := trod_istruct hs hone hi hC hf
  refine ⟨ns, ?_, h2, h3⟩
  have : cs.toList = ns.map vi := by simpa [Value.cells] using h1
  rw [← this]

/-! ### slices -/
theorem rowAt_le {fits : TypeId → Bool} {d : Nat} {e : TypeId} {count off n : Nat} (h : rowAt P fits d e count off n = true) : off ≤ count * P.cellsOf e := by
  cases d with
  | zero => simp [rowAt] at h
  | succ d =>
    unfold rowAt at h
    simp only at h
    split at h
    · cases h
    · rename_i hs
      have hsp : 0 < P.cellsOf e := Nat.pos_of_ne_zero hs
      have hdm := Nat.div_add_mod off (P.cellsOf e)
      have hml := Nat.mod_lt off hsp
      rw [Nat.mul_comm] at hdm
      rcases (Bool.or_eq_true _ _).mp h with h | h
      · simp only [Bool.and_eq_true, beq_iff_eq, decide_eq_true_eq] at h
        have : off / P.cellsOf e * P.cellsOf e ≤ count * P.cellsOf e := Nat.mul_le_mul_right _ (by omega)
        omega
      · simp only [Bool.and_eq_true, decide_eq_true_eq] at h
        have : (off / P.cellsOf e + 1) * P.cellsOf e ≤ count * P.cellsOf e := Nat.mul_le_mul_right _ (by omega)
        rw [Nat.add_mul, Nat.one_mul] at this
        omega
theorem liesAt_le : ∀ {d : Nat} {e : TypeId} {count off : Nat} {u : TypeId} {n : Nat}, liesAt P d e count off u n = true → off ≤ count * P.cellsOf e
  | 0, _, _, _, _, _, h => by simp [liesAt] at h
  | d + 1, e, count, off, u, n, h => by
    unfold liesAt at h
    rcases (Bool.or_eq_true _ _).mp h with h | h
    · exact rowAt_le h
    · split at h
      · exact liesAt_le h
      · cases h

/-- the elements of a slice of structs of ints -/
theorem open_sliceS {r : Reach} {b0 : Nat} {t e : TypeId} {fs : Array Field} {v : Value} {d : DataW H} {p : List MemPlace} (ht : P.underlying t = some (.slice e)) (hs : P.underlying e = some (.struct fs)) (hone : oneCellFields P fs = true) (hi : intsF P fs = true) (hC : P.cellsOf e = fs.size)
    (hv : Value.okWide P w r b0 t v) (h : DataW.Trod enc P w base (fun _ => true) held t v d p) : ∃ (s : Sl) (cs : List (List Int)), v = .slice s.a s.len s.cap ∧ s.len = cs.length ∧ s.len ≤ s.cap ∧ (∀ c ∈ cs, c.length = fs.size ∧ ∀ n ∈ c, in64 n) ∧
      ((s.a = none ∧ s.cap = 0) ∨ ∃ b off l e fz, s.a = some ⟨b, off, none⟩ ∧ w.heap[b]? = some (.cells l e fz) ∧ off + s.cap * fs.size ≤ l.size ∧ (l.toList.drop off).take (s.len * fs.size) = cs.flatMap fun c => c.map vi) := by
  obtain ⟨a0, len, cap, rfl⟩ := okWide_slice ht hv
  obtain ⟨fuel, hf⟩ := h
  rcases open_slice ht hf with ⟨hcs, hx⟩ | ⟨a, len', cap', m, n, D, Pl, hcs, hb, hl, hm, hmm, hx, hel⟩
  · simp [Value.cells] at hcs
    obtain ⟨rfl, rfl, rfl⟩ := hcs
    exact ⟨⟨none, 0, 0⟩, [], rfl, rfl, Nat.le_refl _, by simp, .inl ⟨rfl, rfl⟩⟩
  · simp [Value.cells] at hcs
    obtain ⟨rfl, rfl, rfl⟩ := hcs
    have hh : w.has P r b0 a e cap := by
      simp only [Value.okWide, ht, Cell.okWide] at hv
      simp only [Cell.ok, ht] at hv
      exact hv.2.2
    obtain ⟨_, hsp, row, cells, hsh, hlies⟩ := hh
    obtain ⟨b, off, sp⟩ := a
    simp only at hsp hsh hlies
    subst hsp
    obtain ⟨l, fz, hheap, hsz⟩ : ∃ l fz, w.heap[b]? = some (.cells l row fz) ∧ l.size = cells := by
      unfold World.shape? at hsh
      split at hsh
      · rename_i c el fz hc
        simp at hsh
        obtain ⟨rfl, rfl⟩ := hsh
        exact ⟨c, fz, hc, rfl⟩
      · cases hsh
    have hle := liesAt_le hlies
    have hoff : off ≤ l.size := by
      have : cells / P.cellsOf row * P.cellsOf row ≤ cells := Nat.div_mul_le_self _ _
      omega
    simp only [if_true] at hmm
    subst hmm
    rw [hC] at hel
    have hcell : ∀ i, i < m → ∃ ns : List Int, (l.toList.drop (off + i * fs.size)).take fs.size = ns.map vi ∧ ns.length = fs.size ∧ (∀ n ∈ ns, in64 n) ∧ off + i * fs.size + fs.size ≤ l.size := by
      intro i hil
      obtain ⟨cs', h1, h2⟩ := hel i hil
      obtain ⟨ns, h3, h4, h5⟩ := trod_istruct hs hone hi hC h2
      obtain ⟨_, h6, h7⟩ := World.cells?_some h1
      have hget : ∀ j, j < fs.size → l[off + i * fs.size + j]? = cs'[j]? := by
        intro j hj
        have := h7 j hj
        rw [Addr.add_lit, Addr.add_lit] at this
        unfold World.cell? at this
        simp only [hheap] at this
        simpa using this
      have hbound : off + i * fs.size + fs.size ≤ l.size := by
        rcases Nat.eq_zero_or_pos fs.size with h0 | h0
        · rw [h0]; simpa using hoff
        · have := hget (fs.size - 1) (by omega)
          rw [List.getElem?_eq_getElem (by omega)] at this
          have := (Array.getElem?_eq_some_iff.1 this).1
          omega
      refine ⟨ns, ?_, h4, h5, hbound⟩
      rw [← h3]
      apply List.ext_getElem?
      intro j
      rw [List.getElem?_take, List.getElem?_drop]
      split
      · rename_i hj
        have := hget j hj
        rw [← this]; simp
      · rename_i hj
        rw [List.getElem?_eq_none (by omega)]
    obtain ⟨D', hD'⟩ := choose_lt (α := List Int) (p := fun i ns => (l.toList.drop (off + i * fs.size)).take fs.size = ns.map vi ∧ ns.length = fs.size ∧ (∀ n ∈ ns, in64 n) ∧ off + i * fs.size + fs.size ≤ l.size) hcell
    have hflat : ∀ k, k ≤ m → (l.toList.drop off).take (k * fs.size) = ((List.range k).map D').flatMap fun c => c.map vi := by
      intro k
      induction k with
      | zero => intro _; simp
      | succ k ih =>
        intro hk
        rw [List.range_succ, List.map_append, List.flatMap_append, ← ih (by omega), Nat.add_mul, Nat.one_mul]
        obtain ⟨h1, _⟩ := hD' k (by omega)
        rw [List.take_add, List.drop_drop, h1]
        simp
    refine ⟨⟨some ⟨b, off, none⟩, len, m⟩, (List.range len).map D', rfl, by simp, hl, ?_, .inr ⟨b, off, l, row, fz, rfl, hheap, ?_, hflat len hl⟩⟩
    · intro c hc
      obtain ⟨i, hi, rfl⟩ := List.mem_map.1 hc
      obtain ⟨_, h2, h3, _⟩ := hD' i (by have := List.mem_range.1 hi; omega)
      exact ⟨h2, h3⟩
    · rcases Nat.eq_zero_or_pos m with h0 | h0
      · subst h0; simpa using hoff
      · obtain ⟨_, _, _, h4⟩ := hD' (m - 1) (by omega)
        have : m * fs.size = (m - 1) * fs.size + fs.size := by
          conv => lhs; rw [show m = (m - 1) + 1 by omega]
          rw [Nat.add_mul, Nat.one_mul]
        show off + m * fs.size ≤ l.size
        omega

/-- .. of a type of one's own -/
theorem slAt_of {L : LTy} {s : Sl} {cs : List (List Int)} {k : Nat} (f : List Int → L.α) (hk : L.n = k) (hf : ∀ c ∈ cs, L.cells (f c) = c.map vi) (h1 : s.len = cs.length) (h2 : s.len ≤ s.cap)
    (h : (s.a = none ∧ s.cap = 0) ∨ ∃ b off l e fz, s.a = some ⟨b, off, none⟩ ∧ w.heap[b]? = some (.cells l e fz) ∧ off + s.cap * k ≤ l.size ∧ (l.toList.drop off).take (s.len * k) = cs.flatMap fun c => c.map vi) : slAt L w s (cs.map f) := by
  subst hk
  refine ⟨by simpa using h1, h2, h.imp id ?_⟩
  rintro ⟨b, off, l, e, fz, h3, h4, h5, h6⟩
  refine ⟨b, off, l, e, fz, h3, h4, h5, ?_⟩
  rw [h6, List.flatMap_map]
  clear h1 h6 h
  induction cs with
  | nil => rfl
  | cons c r ih => rw [List.flatMap_cons, List.flatMap_cons, hf c List.mem_cons_self, ih (fun x hx => hf x (List.mem_cons_of_mem _ hx))]
end
end Go.Dk
