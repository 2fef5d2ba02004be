/- Formulas reckoned out by simp. -/
import Derived.Test.YtdmncelglohmiaaDkX
namespace Go.Dk
open Go Go.RowKit
set_option linter.unusedSimpArgs false
set_option linter.unusedVariables false

/-- cells that lie at p -/
def rdL (w : World) (p : Addr) (n : Nat) : Option (List Value) :=
  match w.heap[p.block]? with
  | some (.cells l _ _) => if p.spot = none ∧ p.off + n ≤ l.size then some ((l.toList.drop p.off).take n) else none
  | _ => none
theorem has_rdL {w : World} {p : Addr} {cs : List Value} : has w p cs ↔ rdL w p cs.length = some cs := by
  unfold has rdL
  constructor
  · rintro ⟨h1, l, e, fz, h2, h3, h4⟩
    simp only [h2, h1, h4, h3, and_self, if_true]
  · intro h
    split at h
    · rename_i l e fz hl
      split at h
      · rename_i hc; exact ⟨hc.1, l, e, fz, hl, Option.some.inj h, hc.2⟩
      · cases h
    · cases h
theorem rdL_of {w : World} {b off n : Nat} {l : Array Value} {e : TypeId} {fz : Nat × Nat} (h : w.heap[b]? = some (.cells l e fz)) (hb : off + n ≤ l.size) : rdL w ⟨b, off, none⟩ n = some ((l.toList.drop off).take n) := by
  unfold rdL; simp only [h, true_and, hb, if_true]

@[simp] theorem newB_eq {o : Obj} {K : Nat → World → Prop} {w : World} : newB o K w = K w.heap.size (w.alloc o) := rfl
theorem ld_eq {L : LTy} {p : Addr} {K : L.α → World → Prop} {w : World} : ld L p K w ↔ ∃ x, rdL w p L.n = some (L.cells x) ∧ K x w := by
  unfold ld
  constructor
  · rintro ⟨x, h, hk⟩; exact ⟨x, by rw [← L.h_len x]; exact has_rdL.1 h, hk⟩
  · rintro ⟨x, h, hk⟩; exact ⟨x, has_rdL.2 (by rw [L.h_len x]; exact h), hk⟩
@[simp] theorem ld_int {k : IntKind} {p : Addr} {K : Int → World → Prop} {w : World} : ld (lInt k) p K w ↔ ∃ x, rdL w p 1 = some [.int k x] ∧ K x w := ld_eq
@[simp] theorem ld_bool {p : Addr} {K : Bool → World → Prop} {w : World} : ld lBool p K w ↔ ∃ x, rdL w p 1 = some [.bool x] ∧ K x w := ld_eq
@[simp] theorem ld_ptr {p : Addr} {K : Option Addr → World → Prop} {w : World} : ld lPtr p K w ↔ ∃ x, rdL w p 1 = some [.pointer x] ∧ K x w := ld_eq
@[simp] theorem ld_map {p : Addr} {K : Option Nat → World → Prop} {w : World} : ld lMap p K w ↔ ∃ x, rdL w p 1 = some [.map x] ∧ K x w := ld_eq
@[simp] theorem ld_sl {p : Addr} {K : Sl → World → Prop} {w : World} : ld lSl p K w ↔ ∃ a n c, rdL w p 1 = some [.slice a n c] ∧ K ⟨a, n, c⟩ w :=
  ld_eq.trans ⟨fun ⟨x, h⟩ => ⟨x.a, x.len, x.cap, h⟩, fun ⟨a, n, c, h⟩ => ⟨⟨a, n, c⟩, h⟩⟩

/-! ### blocks -/
@[simp] theorem hs_alloc_new {w : World} {o : Obj} {k : Nat} (h : k = w.heap.size) : (w.alloc o).heap[k]? = some o := by subst h; exact hp_new w o
@[simp] theorem hs_alloc_old {w : World} {o : Obj} {k : Nat} (h : k < w.heap.size) : (w.alloc o).heap[k]? = w.heap[k]? := (Ch.alloc (S := []) o).block k h (by simp)
@[simp] theorem hs_put_eq {w : World} {o : Obj} {b k : Nat} (h : k = b) (hb : b < w.heap.size) : (w.putObj b o).heap[k]? = some o := by subst h; exact World.putObj_heap_same hb
@[simp] theorem hs_put_ne {w : World} {o : Obj} {k b : Nat} (h : k ≠ b) : (w.putObj b o).heap[k]? = w.heap[k]? := World.putObj_heap_other h
@[simp] theorem hs_drew {w : World} {k : Nat} : w.drew.heap[k]? = w.heap[k]? := rfl
@[simp] theorem put_new {w : World} {o o' : Obj} {b : Nat} (h : b = w.heap.size) : (w.alloc o).putObj b o' = w.alloc o' := by
  subst h
  unfold World.putObj World.alloc
  simp only
  congr 1
  apply Array.toList_inj.1
  rw [Array.toList_setIfInBounds]
  simp

@[simp] theorem rdL_alloc_old {w : World} {o : Obj} {p : Addr} {n : Nat} (h : p.block < w.heap.size) : rdL (w.alloc o) p n = rdL w p n := by unfold rdL; rw [hs_alloc_old h]
@[simp] theorem rdL_drew {w : World} {p : Addr} {n : Nat} : rdL w.drew p n = rdL w p n := rfl
@[simp] theorem rdL_put_ne {w : World} {o : Obj} {p : Addr} {n b : Nat} (h : p.block ≠ b) : rdL (w.putObj b o) p n = rdL w p n := by unfold rdL; rw [hs_put_ne h]
@[simp] theorem rdL_new {w : World} {cs : List Value} {e : TypeId} {fz : Nat × Nat} {b off n : Nat} (h : b = w.heap.size) (ho : off + n ≤ cs.length) : rdL (w.alloc (.cells cs.toArray e fz)) ⟨b, off, none⟩ n = some ((cs.drop off).take n) := by
  rw [rdL_of (hs_alloc_new h) (by simpa using ho)]
@[simp] theorem rdL_put {w : World} {cs : List Value} {e : TypeId} {fz : Nat × Nat} {b k off n : Nat} (h : k = b) (hb : b < w.heap.size) (ho : off + n ≤ cs.length) : rdL (w.putObj b (.cells cs.toArray e fz)) ⟨k, off, none⟩ n = some ((cs.drop off).take n) := by
  rw [rdL_of (hs_put_eq h hb) (by simpa using ho)]
@[simp] theorem add_lit {b o n : Nat} : Addr.add ⟨b, o, none⟩ n = ⟨b, o + n, none⟩ := Addr.add_lit b o n
@[simp] theorem add_block {p : Addr} {n : Nat} : (p.add n).block = p.block := by unfold Addr.add; split <;> rfl

theorem st_eq {p : Addr} {cs : List Value} {K : World → Prop} {w : World} : st p cs K w ↔ ∃ l e, w.heap[p.block]? = some (.cells l e) ∧ p.spot = none ∧ p.off + cs.length ≤ l.size ∧ K (w.putObj p.block (.cells (wrt l.toList p.off cs).toArray e)) := Iff.rfl
/-- a store into a block just made -/
@[simp] theorem st_new {w : World} {cs l : List Value} {e : TypeId} {b off : Nat} {K : World → Prop} (h : b = w.heap.size) (ho : off + cs.length ≤ l.length) : st ⟨b, off, none⟩ cs K (w.alloc (.cells l.toArray e)) ↔ K (w.alloc (.cells (wrt l off cs).toArray e)) := by
  subst h
  rw [st_eq]
  constructor
  · rintro ⟨l', e', h1, h2, h3, h4⟩
    rw [hs_alloc_new rfl] at h1
    cases h1
    rw [put_new rfl] at h4; exact h4
  · intro hk
    exact ⟨l.toArray, e, hs_alloc_new rfl, rfl, by simpa using ho, by rw [put_new rfl]; exact hk⟩
attribute [simp] wrt

end Go.Dk
