/- How memory's operations run. -/
import Derived.Test.YtdmncelglohmiaaDkC
namespace Go.Dk
open Go
set_option linter.unusedSimpArgs false
set_option linter.unusedVariables false

variable {P : Program}

theorem add_parts (p : Addr) (j : Nat) (h : p.spot = none) : p.add j = ⟨p.block, p.off + j, none⟩ := by
  unfold Addr.add; split
  · subst_vars; cases p; simp_all
  · rfl

theorem cell_at {w : World} {b off : Nat} {l : Array Value} {e : TypeId} {fz : Nat × Nat} (h : w.heap[b]? = some (.cells l e fz)) : w.cell? ⟨b, off, none⟩ = l[off]? := by
  simp [World.cell?, h]

theorem has_cell {w : World} {p : Addr} {cs : List Value} (h : has w p cs) (j : Nat) (hj : j < cs.length) : w.cell? (p.add j) = cs[j]? := by
  obtain ⟨hs, l, e, fz, hb, hc, _⟩ := h
  rw [add_parts p j hs, cell_at hb, ← hc]
  simp [List.getElem?_take, hj]

theorem run_loadCellsFrom {w : World} {p : Addr} : ∀ (n i : Nat) (acc : Array Value) (cs : List Value), cs.length = n → (∀ j, j < n → w.cell? (p.add (i + j)) = cs[j]?) →
    (loadCellsFrom p i n acc).run P w = .ok (acc ++ cs.toArray) w
  | 0, i, acc, cs, hn, _ => by
    have : cs = [] := List.eq_nil_of_length_eq_zero hn
    subst this; simp [loadCellsFrom]
  | n + 1, i, acc, cs, hn, h => by
    match cs, hn with
    | c :: r, hn =>
      have h0 := h 0 (by omega)
      simp at h0
      simp only [loadCellsFrom, Sem.run_bind, run_load, h0, Result.andThen_ok]
      rw [run_loadCellsFrom n (i + 1) (acc.push c) r (by simpa using hn)]
      · simp
      · intro j hj
        have := h (j + 1) (by omega)
        rw [show i + 1 + j = i + (j + 1) by omega]; simpa using this

theorem run_loadCells {w : World} {p : Addr} {cs : List Value} (h : has w p cs) : (loadCells p cs.length).run P w = .ok cs.toArray w := by
  unfold loadCells
  rw [run_loadCellsFrom cs.length 0 #[] cs rfl (fun j hj => by rw [Nat.zero_add]; exact has_cell h j hj)]
  simp

theorem run_underlying' {t : TypeId} {d : TypeDesc} (h : P.underlying t = some d) (w : World) : (underlying t).run P w = .ok d w := run_underlying h w

theorem run_isAgg' {t : TypeId} {d : TypeDesc} (h : P.underlying t = some d) (w : World) : (isAgg t).run P w = .ok (aggD d) w := by
  unfold isAgg; simp only [Sem.run_bind, run_underlying h, Result.andThen_ok]; cases d <;> rfl

theorem run_typeInfo' {t : TypeId} {i : TypeInfo} (h : P.info? t = some i) (w : World) : (typeInfo t).run P w = .ok i w := by
  unfold typeInfo; simp [Sem.run_bind, h]

theorem run_sizeOf' {t : TypeId} {i : TypeInfo} (h : P.info? t = some i) (w : World) : (sizeOf t).run P w = .ok i.size w := by
  unfold sizeOf; simp [Sem.run_bind, run_typeInfo' h]

theorem run_zeroValue' {t : TypeId} {i : TypeInfo} {v : Value} (h : P.info? t = some i) (hz : i.zero = some v) (w : World) : (zeroValue t).run P w = .ok v w := by
  unfold zeroValue; simp [Sem.run_bind, run_typeInfo' h, hz]

theorem run_loadVar' {w : World} {t : TypeId} {p : Addr} {L : LTy} (hL : LtOk P t L) (x : L.α) (h : has w p (L.cells x)) : (loadVar t p).run P w = .ok (L.enc x) w := by
  obtain ⟨i, d, hi, hn, hu, ha⟩ := hL
  unfold loadVar
  simp only [Sem.run_bind, run_isAgg' hu, Result.andThen_ok, ha]
  cases hg : L.agg with
  | true =>
    simp only [if_true, Sem.run_bind, run_sizeOf' hi, Result.andThen_ok, hn]
    have hl := L.h_len x
    rw [← hl, run_loadCells h]
    simp [L.h_agg hg x]
  | false =>
    obtain ⟨h1, _⟩ := L.h_one hg x
    rw [h1] at h
    have := has_cell h 0 (by simp)
    simp [Addr.add] at this
    simp [this]

/-- a cell turned, as a block turned -/
theorem setCell_put {w : World} {b off : Nat} {l : Array Value} {e : TypeId} {v : Value} (h : w.heap[b]? = some (.cells l e)) :
    w.setCell ⟨b, off, none⟩ v = w.putObj b (.cells (l.setIfInBounds off v) e) := by
  unfold World.setCell World.putObj
  congr 1
  obtain ⟨hlt, hb⟩ := Array.getElem?_eq_some_iff.1 h
  apply Array.ext
  · simp
  · intro i h1 h2
    rw [Array.getElem_modify]
    by_cases hbi : b = i
    · subst hbi; simp [hb]
    · rw [if_neg hbi, Array.getElem_setIfInBounds_ne _ hbi]

theorem putObj_putObj {w : World} {b : Nat} {o o' : Obj} : (w.putObj b o).putObj b o' = w.putObj b o' := by
  simp [World.putObj]

theorem putObj_same {w : World} {b : Nat} {o : Obj} (h : w.heap[b]? = some o) : w.putObj b o = w := by
  unfold World.putObj
  obtain ⟨hlt, hb⟩ := Array.getElem?_eq_some_iff.1 h
  have : w.heap.setIfInBounds b o = w.heap := by
    apply Array.ext
    · simp
    · intro i h1 h2
      by_cases hbi : b = i
      · subst hbi; simp [hb]
      · rw [Array.getElem_setIfInBounds_ne _ hbi]
  rw [this]

theorem wrt_nil (l : List Value) (off : Nat) : wrt l off [] = l := by simp [wrt]

theorem wrt_cons (l : List Value) (off : Nat) (c : Value) (cs : List Value) (h : off + (cs.length + 1) ≤ l.length) : wrt l off (c :: cs) = wrt (l.set off c) (off + 1) cs := by
  unfold wrt
  have e1 : (l.set off c).take (off + 1) = l.take off ++ [c] := by
    rw [List.take_set]
    rw [List.set_eq_take_append_cons_drop]
    simp [List.take_take, Nat.min_eq_left]
    omega
  have e2 : (l.set off c).drop (off + 1 + cs.length) = l.drop (off + (c :: cs).length) := by
    rw [List.drop_set_of_lt (by omega)]
    congr 1; simp; omega
  rw [e1, e2]; simp

theorem run_storeCells {e : TypeId} : ∀ (cs : List Value) (w : World) (b off i : Nat) (l : Array Value), w.heap[b]? = some (.cells l e) → off + i + cs.length ≤ l.size → cs.all Value.oneCell' = true →
    (storeCells ⟨b, off, none⟩ cs i).run P w = .ok () (w.putObj b (.cells (wrt l.toList (off + i) cs).toArray e))
  | [], w, b, off, i, l, h, _, _ => by
    simp [storeCells, wrt_nil, putObj_same h]
  | c :: cs, w, b, off, i, l, h, hl, ho => by
    simp only [List.length_cons] at hl
    simp only [List.all_cons, Bool.and_eq_true] at ho
    have hlt : b < w.heap.size := (Array.getElem?_eq_some_iff.1 h).1
    have hc : w.cell? ⟨b, off + i, none⟩ = l[off + i]? := cell_at h
    have hs : l[off + i]? = some l[off + i] := Array.getElem?_eq_getElem (by omega)
    have hf : w.frozen? ⟨b, off + i, none⟩ = false := by simp [World.frozen?, h]
    unfold storeCells
    rw [add_parts _ _ rfl]
    simp only [Sem.run_bind]
    rw [run_store P w _ c _ ho.1]
    simp only [hc, hs, hf, Bool.false_eq_true, if_false, Result.andThen_ok]
    rw [setCell_put h]
    have h' : (w.putObj b (.cells (l.setIfInBounds (off + i) c) e)).heap[b]? = some (.cells (l.setIfInBounds (off + i) c) e) := World.putObj_heap_same hlt
    rw [run_storeCells cs _ b off (i + 1) _ h' (by simp; omega) ho.2, putObj_putObj]
    congr 4
    rw [← Nat.add_assoc, wrt_cons _ _ _ _ (by simp; omega)]
    simp

theorem run_storeVar {w : World} {t : TypeId} {i : TypeInfo} {p : Addr} {v : Value} {l : Array Value} {e : TypeId} (hi : P.info? t = some i) (hn : (cellsL v).length = i.size)
    (ho : (cellsL v).all Value.oneCell' = true) (hs : p.spot = none) (h : w.heap[p.block]? = some (.cells l e)) (hl : p.off + (cellsL v).length ≤ l.size) :
    (storeVar t p v).run P w = .ok () (w.putObj p.block (.cells (wrt l.toList p.off (cellsL v)).toArray e)) := by
  unfold storeVar
  simp only [Sem.run_bind, run_sizeOf' hi, Result.andThen_ok, cellsL_eq]
  simp only [hn, List.size_toArray, ne_eq, not_true_eq_false, if_false]
  obtain ⟨b, off, spot⟩ := p
  simp only at hs; subst hs
  exact run_storeCells _ w b off 0 l h (by simpa using hl) ho

end Go.Dk
