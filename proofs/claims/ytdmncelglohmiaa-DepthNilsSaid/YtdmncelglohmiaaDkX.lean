/- Slices. -/
import Derived.Test.YtdmncelglohmiaaDkW
import Derived.Laws.Append
import Derived.Laws.Entries
namespace Go.Dk
open Go Go.RowKit
set_option linter.unusedSimpArgs false
set_option linter.unusedVariables false

/-- the elements of a slice -/
def slAt (L : LTy) (w : World) (s : Sl) (xs : List L.α) : Prop :=
  s.len = xs.length ∧ s.len ≤ s.cap ∧
  ((s.a = none ∧ s.cap = 0) ∨ ∃ b off l e fz, s.a = some ⟨b, off, none⟩ ∧ w.heap[b]? = some (.cells l e fz) ∧ off + s.cap * L.n ≤ l.size ∧ (l.toList.drop off).take (s.len * L.n) = xs.flatMap L.cells)
/-- .. of one's own -/
def slOwn (L : LTy) (w : World) (s : Sl) (xs : List L.α) : Prop :=
  s.len = xs.length ∧ s.len ≤ s.cap ∧
  ((s.a = none ∧ s.cap = 0) ∨ ∃ b off l e, s.a = some ⟨b, off, none⟩ ∧ w.heap[b]? = some (.cells l e) ∧ off + s.cap * L.n ≤ l.size ∧ (l.toList.drop off).take (s.len * L.n) = xs.flatMap L.cells)
def blks (s : Sl) : List Nat := match s.a with | some p => [p.block] | none => []
/-- it lies where nothing was -/
def fresh (n : Nat) (s : Sl) : Prop := ∀ p, s.a = some p → n ≤ p.block

variable {L : LTy} {w w' : World} {s x : Sl} {xs ys : List L.α}

theorem slOwn.at (h : slOwn L w s xs) : slAt L w s xs := by
  obtain ⟨h1, h2, h3⟩ := h
  refine ⟨h1, h2, h3.imp id ?_⟩
  rintro ⟨b, off, l, e, h4, h5, h6, h7⟩
  exact ⟨b, off, l, e, (0, 0), h4, h5, h6, h7⟩
theorem slOwn.nil : slOwn L w ⟨none, 0, 0⟩ [] := ⟨rfl, Nat.le_refl _, .inl ⟨rfl, rfl⟩⟩
theorem slAt.ch {S : List Nat} (h : slAt L w s xs) (hc : Ch S w w') (hb : ∀ k ∈ blks s, k ∉ S) : slAt L w' s xs := by
  obtain ⟨h1, h2, h3⟩ := h
  refine ⟨h1, h2, h3.imp id ?_⟩
  rintro ⟨b, off, l, e, fz, h4, h5, h6, h7⟩
  exact ⟨b, off, l, e, fz, h4, hp_ch hc h5 (hb b (by simp [blks, h4])), h6, h7⟩
theorem slOwn.ch {S : List Nat} (h : slOwn L w s xs) (hc : Ch S w w') (hb : ∀ k ∈ blks s, k ∉ S) : slOwn L w' s xs := by
  obtain ⟨h1, h2, h3⟩ := h
  refine ⟨h1, h2, h3.imp id ?_⟩
  rintro ⟨b, off, l, e, h4, h5, h6, h7⟩
  exact ⟨b, off, l, e, h4, hp_ch hc h5 (hb b (by simp [blks, h4])), h6, h7⟩
theorem slAt.lt (h : slAt L w s xs) : ∀ k ∈ blks s, k < w.heap.size := by
  obtain ⟨h1, h2, h3⟩ := h
  intro k hk
  rcases h3 with ⟨h3, _⟩ | ⟨b, off, l, e, fz, h4, h5, h6, h7⟩
  · simp [blks, h3] at hk
  · simp [blks, h4] at hk; subst hk; exact hp_lt h5

theorem flat_len : ∀ (xs : List L.α), (xs.flatMap L.cells).length = xs.length * L.n
  | [] => by simp
  | x :: r => by simp [flat_len r, L.h_len, Nat.add_mul]; omega
theorem flat_get : ∀ (xs : List L.α) (i : Nat) (x : L.α), xs[i]? = some x → ((xs.flatMap L.cells).drop (i * L.n)).take L.n = L.cells x
  | [], i, x, h => by simp at h
  | y :: r, 0, x, h => by simp at h; subst h; simp; rw [List.take_append_of_le_length (by rw [L.h_len]; exact Nat.le_refl _), List.take_of_length_le (by rw [L.h_len]; exact Nat.le_refl _)]
  | y :: r, i + 1, x, h => by
    rw [List.flatMap_cons, Nat.add_mul, Nat.one_mul, Nat.add_comm, ← List.drop_drop]
    rw [show L.n = (L.cells y).length from (L.h_len y).symm, List.drop_left]
    rw [L.h_len y]
    exact flat_get r i x (by simpa using h)

/-- an element's cells -/
theorem slAt.has (h : slAt L w s xs) {i : Nat} {y : L.α} (hi : xs[i]? = some y) (hn : 0 < L.n) : ∃ p, s.a = some p ∧ has w (p.add (i * L.n)) (L.cells y) := by
  obtain ⟨h1, h2, h3⟩ := h
  have hlt : i < xs.length := by
    rcases Nat.lt_or_ge i xs.length with h | h
    · exact h
    · rw [List.getElem?_eq_none h] at hi; cases hi
  have hm : (i + 1) * L.n ≤ s.len * L.n := Nat.mul_le_mul_right _ (by omega)
  rw [Nat.add_mul, Nat.one_mul] at hm
  rcases h3 with ⟨h3, h4⟩ | ⟨b, off, l, e, fz, h4, h5, h6, h7⟩
  · omega
  · refine ⟨_, h4, ?_⟩
    rw [Addr.add_lit]
    refine ⟨rfl, l, e, fz, h5, ?_, ?_⟩
    · have := flat_get xs i y hi
      rw [← h7, List.drop_take, List.drop_drop, List.take_take] at this
      rw [L.h_len, ← this]
      show (List.drop (off + i * L.n) l.toList).take L.n = _
      congr 1
      omega
    · rw [L.h_len]
      have : s.len * L.n ≤ s.cap * L.n := Nat.mul_le_mul_right _ h2
      show off + i * L.n + L.n ≤ l.size
      omega

/-- reading an element -/
theorem idx_i {k : Nat} {i : Int} {y : L.α} {K : L.α → World → Prop} (h : slAt L w s xs) (hn : L.n = k) (h0 : 0 < k) (hi : 0 ≤ i) (hy : xs[i.toNat]? = some y) (hk : K y w) :
    (0 : Int) ≤ i ∧ i < ((s.len : Nat) : Int) ∧ onO s.a fun p => ld L (p.add (i.toNat * k)) K w := by
  subst hn
  have hlt : i.toNat < xs.length := by
    rcases Nat.lt_or_ge i.toNat xs.length with h | h
    · exact h
    · rw [List.getElem?_eq_none h] at hy; cases hy
  refine ⟨hi, by have := h.1; omega, ?_⟩
  obtain ⟨p, hp, hh⟩ := h.has hy h0
  rw [hp]
  exact ⟨y, hh, hk⟩

theorem cellsAt_of (h : slAt L w s xs) : cellsAt w s L.n (xs.flatMap L.cells) := by
  obtain ⟨h1, h2, h3⟩ := h
  refine ⟨by rw [flat_len, h1], ?_⟩
  rcases h3 with ⟨h3, h4⟩ | ⟨b, off, l, e, fz, h4, h5, h6, h7⟩
  · left
    have : xs = [] := by
      cases xs with
      | nil => rfl
      | cons => simp at h1; omega
    subst this; exact ⟨rfl, h3⟩
  · right
    refine ⟨_, h4, rfl, l, e, fz, h5, ?_, ?_⟩
    · rw [flat_len, ← h1, h7]
    · rw [flat_len, ← h1]
      have : s.len * L.n ≤ s.cap * L.n := Nat.mul_le_mul_right _ h2
      show off + s.len * L.n ≤ l.size
      omega

theorem wrt_take {l : List Value} {off : Nat} {cs : List Value} (h : off + cs.length ≤ l.length) (o n : Nat) (ho : o + n = off) : ((wrt l off cs).drop o).take (n + cs.length) = (l.drop o).take n ++ cs := by
  unfold wrt
  subst ho
  rw [List.append_assoc, List.drop_append_of_le_length (by rw [List.length_take]; omega)]
  rw [List.drop_take, show o + n - o = n by omega]
  have hl : ((l.drop o).take n).length = n := by rw [List.length_take, List.length_drop]; omega
  rw [← List.append_assoc, List.take_append_of_le_length (by rw [List.length_append, hl]; exact Nat.le_refl _)]
  rw [List.take_of_length_le (by rw [List.length_append, hl]; exact Nat.le_refl _)]
theorem wrt_length {l : List Value} {off : Nat} {cs : List Value} (h : off + cs.length ≤ l.length) : (wrt l off cs).length = l.length := by
  unfold wrt; simp; omega

theorem reps_length (n : Nat) (z : List Value) : (reps n z).length = n * z.length := by
  unfold reps
  induction n with
  | zero => simp
  | succ n ih => simp [List.replicate_succ, ih, Nat.add_mul]; omega

theorem apnd_i {e sz by_ : Nat} {z : List Value} {K : Sl → World → Prop} (hs : slOwn L w s xs) (hx : slAt L w x ys) (hsz : L.n = sz) (hz : z.length = L.n) (h0 : by_ ≠ 0) (hby : (xs.length + ys.length) * by_ ≤ 2 ^ 47)
    (hlim : xs.length + ys.length < 2 ^ 62)
    (hone : ∀ y, (L.cells y).all Value.oneCell' = true)
    (hk : ∀ s' w', Ch (blks s) w w' → slOwn L w' s' (xs ++ ys) → (s'.a = s.a ∨ ∃ b, s'.a = some ⟨b, 0, none⟩ ∧ w.heap.size ≤ b) → K s' w') : by_ ≠ 0 ∧ apnd e sz by_ z s x K w := by
  subst hsz
  refine ⟨h0, ?_⟩
  have hl : xs.length = s.len := hs.1.symm
  have hxl : ys.length = x.len := hx.1.symm
  refine ⟨ys.flatMap L.cells, cellsAt_of hx, ?_, ?_, ?_⟩
  · rw [List.all_flatMap]; simp only [List.all_eq_true] at hone ⊢; exact fun y _ => hone y
  · intro hcap
    obtain ⟨h1, h2, h3⟩ := hs
    rcases h3 with ⟨h3, h4⟩ | ⟨b, off, l, el, h4, h5, h6, h7⟩
    · left
      have hy : ys = [] := by
        cases ys with
        | nil => rfl
        | cons => simp at hxl; omega
      have hx' : xs = [] := by
        cases xs with
        | nil => rfl
        | cons => simp at hl; omega
      subst hy hx'
      refine ⟨rfl, hk _ _ (Ch.refl _ _) ⟨?_, ?_, .inl ⟨h3, h4⟩⟩ (.inl rfl)⟩
      · simp at hl hxl ⊢; omega
      · exact hcap
    · right
      have hm : (s.len + x.len) * L.n ≤ s.cap * L.n := Nat.mul_le_mul_right _ hcap
      rw [Nat.add_mul] at hm
      have hfl : (ys.flatMap L.cells).length = x.len * L.n := by rw [flat_len, hxl]
      refine ⟨_, h4, ?_⟩
      rw [Addr.add_lit]
      have hroom : off + s.len * L.n + (ys.flatMap L.cells).length ≤ l.size := by rw [hfl]; omega
      refine st_i (l := l) (e := el) h5 rfl hroom ?_
      refine hk _ _ (Ch.put _ _ (.inl ?_)) ⟨?_, hcap, .inr ⟨b, off, _, el, h4, hp_put_eq h5, ?_, ?_⟩⟩ (.inl rfl)
      · simp [blks, h4]
      · simp [hl, hxl]
      · show off + s.cap * L.n ≤ (wrt l.toList (off + s.len * L.n) _).toArray.size
        rw [List.size_toArray, wrt_length (by simpa using hroom)]
        simpa using h6
      · show ((wrt l.toList (off + s.len * L.n) (ys.flatMap L.cells)).drop off).take ((s.len + x.len) * L.n) = _
        rw [Nat.add_mul, ← hfl, wrt_take (by simpa using hroom) off (s.len * L.n) rfl, h7]
        simp
  · intro hcap
    refine ⟨xs.flatMap L.cells, cellsAt_of hs.at, ?_, ?_⟩
    · have := growslice_fits (need := s.len + x.len) (old := s.cap) (bytes := by_) hcap (by rw [← hl, ← hxl]; simpa using hby)
      simpa using this
    · intro c' h1 h2
      refine hk _ _ ((Ch.drew).trans (Ch.alloc _)) ⟨?_, h1, .inr ⟨w.heap.size, 0, _, e, rfl, hp_new w.drew _, ?_, ?_⟩⟩ (.inr ⟨w.heap.size, rfl, Nat.le_refl _⟩)
      · simp [hl, hxl]
      · show 0 + c' * L.n ≤ (xs.flatMap L.cells ++ ys.flatMap L.cells ++ reps (c' - (s.len + x.len)) z).toArray.size
        rw [List.size_toArray, List.length_append, List.length_append, flat_len, flat_len, reps_length, hl, hxl, hz, ← Nat.add_mul, ← Nat.add_mul]
        rw [Nat.zero_add]
        exact Nat.mul_le_mul_right _ (by omega)
      · show ((xs.flatMap L.cells ++ ys.flatMap L.cells ++ reps (c' - (s.len + x.len)) z).drop 0).take ((s.len + x.len) * L.n) = _
        rw [List.drop_zero, ← List.flatMap_append, List.take_append_of_le_length (by rw [flat_len, List.length_append, hl, hxl]; exact Nat.le_refl _), List.take_of_length_le (by rw [flat_len, List.length_append, hl, hxl]; exact Nat.le_refl _)]

end Go.Dk
