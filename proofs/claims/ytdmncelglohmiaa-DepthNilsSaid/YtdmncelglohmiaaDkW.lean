/- Steps through formulas. -/
import Derived.Test.YtdmncelglohmiaaDkV
import Derived.Below
namespace Go.Dk
open Go Go.RowKit
set_option linter.unusedSimpArgs false
set_option linter.unusedVariables false

/-! ### what changes -/
/-- of the blocks that were there, only those of S are changed -/
structure Ch (S : List Nat) (w w' : World) : Prop where
  os : w'.os = w.os
  tape : w'.tape = w.tape
  output : w'.output = w.output
  size : w.heap.size ≤ w'.heap.size
  block : ∀ k, k < w.heap.size → k ∉ S → w'.heap[k]? = w.heap[k]?

theorem Ch.refl (S : List Nat) (w : World) : Ch S w w := ⟨rfl, rfl, rfl, Nat.le_refl _, fun _ _ _ => rfl⟩
theorem Ch.trans {S : List Nat} {a b c : World} (h : Ch S a b) (k : Ch S b c) : Ch S a c :=
  ⟨k.os.trans h.os, k.tape.trans h.tape, k.output.trans h.output, Nat.le_trans h.size k.size, fun i hi hs => (k.block i (Nat.lt_of_lt_of_le hi h.size) hs).trans (h.block i hi hs)⟩
/-- what is changed besides was not there -/
theorem Ch.trans' {S S' : List Nat} {a b c : World} (h : Ch S a b) (k : Ch S' b c) (hs : ∀ x ∈ S', x ∈ S ∨ a.heap.size ≤ x) : Ch S a c :=
  ⟨k.os.trans h.os, k.tape.trans h.tape, k.output.trans h.output, Nat.le_trans h.size k.size, fun i hi hi' => (k.block i (Nat.lt_of_lt_of_le hi h.size) (fun hx => by rcases hs i hx with h1 | h1; exact hi' h1; omega)).trans (h.block i hi hi')⟩
theorem Ch.mono {S S' : List Nat} {a b : World} (h : Ch S a b) (hs : ∀ x ∈ S, x ∈ S' ∨ a.heap.size ≤ x) : Ch S' a b :=
  ⟨h.os, h.tape, h.output, h.size, fun i hi hi' => h.block i hi (fun hx => by rcases hs i hx with h1 | h1; exact hi' h1; omega)⟩
theorem Ch.below {a b : World} (h : Ch [] a b) : Below a.heap.size a b := ⟨h.os, h.tape, h.output, h.size, fun k hk => h.block k hk (by simp)⟩

theorem Ch.alloc {S : List Nat} {w : World} (o : Obj) : Ch S w (w.alloc o) :=
  ⟨rfl, rfl, rfl, by simp, fun k hk _ => by
    show (w.heap.push o)[k]? = _
    rw [Array.getElem?_push_lt hk, Array.getElem?_eq_getElem hk]⟩
theorem Ch.drew {S : List Nat} {w : World} : Ch S w w.drew := ⟨rfl, rfl, rfl, Nat.le_refl _, fun _ _ _ => rfl⟩
theorem Ch.put {S : List Nat} {w : World} (b : Nat) (o : Obj) (hb : b ∈ S ∨ w.heap.size ≤ b) : Ch S w (w.putObj b o) :=
  ⟨rfl, rfl, rfl, by simp, fun k hk hs => World.putObj_heap_other (fun e => by subst e; rcases hb with h | h; exact hs h; omega)⟩
theorem Ch.put' {S : List Nat} {a w : World} (h : Ch S a w) (b : Nat) (o : Obj) (hb : b ∈ S ∨ a.heap.size ≤ b) : Ch S a (w.putObj b o) :=
  h.trans' (S' := [b]) (Ch.put b o (.inl (by simp))) (by simpa using hb)
theorem Ch.alloc' {S : List Nat} {a w : World} (h : Ch S a w) (o : Obj) : Ch S a (w.alloc o) := h.trans (Ch.alloc o)
theorem Ch.drew' {S : List Nat} {a w : World} (h : Ch S a w) : Ch S a w.drew := h.trans Ch.drew

theorem hp_new (w : World) (o : Obj) : (w.alloc o).heap[w.heap.size]? = some o := World.alloc_heap_new w o
theorem hp_alloc {w : World} {o o' : Obj} {k : Nat} (h : w.heap[k]? = some o') : (w.alloc o).heap[k]? = some o' := by
  have hk : k < w.heap.size := by
    rcases Nat.lt_or_ge k w.heap.size with h1 | h1
    · exact h1
    · rw [Array.getElem?_eq_none h1] at h; cases h
  rw [(Ch.alloc (S := []) o).block k hk (by simp), h]
theorem hp_put_eq {w : World} {o o' : Obj} {k : Nat} (h : w.heap[k]? = some o') : (w.putObj k o).heap[k]? = some o := by
  have hk : k < w.heap.size := by
    rcases Nat.lt_or_ge k w.heap.size with h1 | h1
    · exact h1
    · rw [Array.getElem?_eq_none h1] at h; cases h
  exact World.putObj_heap_same hk
theorem hp_put_ne {w : World} {o o' : Obj} {k b : Nat} (h : w.heap[k]? = some o') (hn : k ≠ b) : (w.putObj b o).heap[k]? = some o' := by rw [World.putObj_heap_other hn, h]
theorem hp_drew {w : World} {o' : Obj} {k : Nat} (h : w.heap[k]? = some o') : w.drew.heap[k]? = some o' := h
theorem hp_ch {S : List Nat} {w w' : World} {o' : Obj} {k : Nat} (hc : Ch S w w') (h : w.heap[k]? = some o') (hn : k ∉ S) : w'.heap[k]? = some o' := by
  have hk : k < w.heap.size := by
    rcases Nat.lt_or_ge k w.heap.size with h1 | h1
    · exact h1
    · rw [Array.getElem?_eq_none h1] at h; cases h
  rw [hc.block k hk hn, h]
theorem hp_lt {w : World} {o' : Obj} {k : Nat} (h : w.heap[k]? = some o') : k < w.heap.size := by
  rcases Nat.lt_or_ge k w.heap.size with h1 | h1
  · exact h1
  · rw [Array.getElem?_eq_none h1] at h; cases h

/-! ### steps -/
theorem newB_i {o : Obj} {K : Nat → World → Prop} {w : World} (h : K w.heap.size (w.alloc o)) : newB o K w := h
theorem ld_i {L : LTy} {p : Addr} {K : L.α → World → Prop} {w : World} {l : Array Value} {e : TypeId} {fz : Nat × Nat} (x : L.α) (h : w.heap[p.block]? = some (.cells l e fz)) (hs : p.spot = none)
    (hc : (l.toList.drop p.off).take (L.cells x).length = L.cells x) (ho : p.off + (L.cells x).length ≤ l.size) (hk : K x w) : ld L p K w := ⟨x, ⟨hs, l, e, fz, h, hc, ho⟩, hk⟩
theorem st_i {p : Addr} {cs : List Value} {K : World → Prop} {w : World} {l : Array Value} {e : TypeId} (h : w.heap[p.block]? = some (.cells l e)) (hs : p.spot = none) (ho : p.off + cs.length ≤ l.size)
    (hk : K (w.putObj p.block (.cells (wrt l.toList p.off cs).toArray e))) : st p cs K w := ⟨l, e, h, hs, ho, hk⟩
theorem mget_i {LK LV : LTy} {b : Nat} {x : LK.α} {K : LV.α → Bool → World → Prop} {w : World} {l : List (Ent LK.α LV.α)} {c : Nat} (h : mapIs LK LV w b l c)
    (hk : K ((mfind LK.keq x l).getD LV.zero) (mfind LK.keq x l).isSome w) : mget LK LV (some b) x K w := ⟨l, c, h, hk⟩
theorem mput_i {LK LV : LTy} {b : Nat} {x : LK.α} {v : LV.α} {K : World → Prop} {w : World} {l : List (Ent LK.α LV.α)} {c : Nat} (h : mapIs LK LV w b l c)
    (hk : K (w.putObj b (mapObj LK LV (mset LK.keq x v c l) (mclk LK.keq x c l)))) : mput LK LV (some b) x v K w := ⟨b, l, c, rfl, h, hk⟩
theorem mdl_i {LK LV : LTy} {b : Nat} {x : LK.α} {K : World → Prop} {w : World} {l : List (Ent LK.α LV.α)} {c : Nat} (h : mapIs LK LV w b l c)
    (hk : K (w.putObj b (mapObj LK LV (mdel LK.keq x l) c))) : mdl LK LV (some b) x K w := .inr ⟨b, l, c, rfl, h, hk⟩
end Go.Dk
