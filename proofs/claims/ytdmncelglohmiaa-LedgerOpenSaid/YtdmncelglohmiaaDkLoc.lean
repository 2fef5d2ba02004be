/- Local blocks: a table of what stands in them. -/
import Derived.Test.YtdmncelglohmiaaK3
namespace Go.Dk
open Go Go.RowKit
set_option linter.unusedSimpArgs false
set_option linter.unusedVariables false

abbrev TE := Nat × List Value × TypeId
abbrev Tbl := List TE
/-- from w0 on, only the table's blocks were changed; they stand at n0 or behind it -/
structure Lc (n0 : Nat) (w0 W : World) (tbl : Tbl) : Prop where
  ch : Ch (tbl.map (·.1)) w0 W
  at_ : ∀ (i : Nat) (e : TE), tbl[i]? = some e → W.heap[e.1]? = some (.cells e.2.1.toArray e.2.2)
  ge : ∀ (i : Nat) (e : TE), tbl[i]? = some e → n0 ≤ e.1
  nd : ∀ (i j : Nat) (e f : TE), tbl[i]? = some e → tbl[j]? = some f → i ≠ j → e.1 ≠ f.1
  sz : n0 ≤ w0.heap.size

variable {n0 : Nat} {w0 W W' : World} {tbl : Tbl}
theorem Lc.start (w : World) : Lc w.heap.size w w [] := ⟨Ch.refl _ _, by simp, by simp, by simp, Nat.le_refl _⟩
theorem Lc.not_mem (h : Lc n0 w0 W tbl) {k : Nat} (hk : k < n0) : k ∉ tbl.map (·.1) := by
  intro hx
  obtain ⟨e, he, rfl⟩ := List.mem_map.1 hx
  obtain ⟨i, hi, rfl⟩ := List.getElem_of_mem he
  have := h.ge i _ (List.getElem?_eq_getElem hi)
  omega
theorem Lc.not_blks (h : Lc n0 w0 W tbl) {s : Sl} (hs : ∀ k ∈ blks s, k < n0) : ∀ k ∈ blks s, k ∉ tbl.map (·.1) := fun k hk => h.not_mem (hs k hk)
theorem Lc.lt (h : Lc n0 w0 W tbl) {i : Nat} {e : Nat × List Value × TypeId} (he : tbl[i]? = some e) : e.1 < W.heap.size := hp_lt (h.at_ i e he)
/-- what a function leaves -/
theorem Lc.out (h : Lc n0 w0 W tbl) {S : List Nat} {w : World} (hw : n0 = w.heap.size) (hc : Ch S w w0) : Ch S w W :=
  hc.trans' h.ch (fun x hx => by
    obtain ⟨e, he, rfl⟩ := List.mem_map.1 hx
    obtain ⟨i, hi, rfl⟩ := List.getElem_of_mem he
    exact .inr (by rw [← hw]; exact h.ge i _ (List.getElem?_eq_getElem hi)))
theorem Lc.out0 {w : World} (h : Lc w.heap.size w W tbl) : Ch [] w W := h.out rfl (Ch.refl _ _)
theorem Lc.drew (h : Lc n0 w0 W tbl) : Lc n0 w0 W.drew tbl := ⟨h.ch.trans Ch.drew, h.at_, h.ge, h.nd, h.sz⟩
theorem Lc.call (h : Lc n0 w0 W tbl) (hc : Ch [] W W') : Lc n0 w0 W' tbl :=
  ⟨h.ch.trans' hc (by simp), fun i e he => hp_ch hc (h.at_ i e he) (by simp), h.ge, h.nd, h.sz⟩
/-- a world to begin from anew -/
theorem Lc.mut (h : Lc n0 w0 W tbl) {S : List Nat} (hc : Ch S W W') (hS : ∀ k ∈ S, k < n0) : Lc n0 W' W' tbl :=
  ⟨Ch.refl _ _, fun i e he => hp_ch hc (h.at_ i e he) (fun hx => by have := hS _ hx; have := h.ge i e he; omega), h.ge, h.nd, by have := h.sz; have := h.ch.size; have := hc.size; omega⟩
theorem Lc.rebase (h : Lc n0 w0 W tbl) : Lc n0 W W tbl := ⟨Ch.refl _ _, h.at_, h.ge, h.nd, Nat.le_trans h.sz h.ch.size⟩
theorem Lc.weak (h : Lc n0 w0 W tbl) (hc : Ch [] w0 W) : Lc n0 w0 W [] := ⟨hc, by simp, by simp, by simp, h.sz⟩

theorem Lc.alloc (h : Lc n0 w0 W tbl) (o : Obj) : Lc n0 w0 (W.alloc o) tbl := h.call (Ch.alloc o)
theorem Lc.new {cs : List Value} {e : TypeId} {K : Nat → World → Prop} (h : Lc n0 w0 W tbl) (hk : ∀ b W', Lc n0 w0 W' ((b, cs, e) :: tbl) → Ch [] W W' → b = W.heap.size → K b W') : newB (.cells cs.toArray e) K W := by
  have h' := h.alloc (.cells cs.toArray e)
  refine hk _ _ ⟨?_, ?_, ?_, ?_, h.sz⟩ (Ch.alloc _) rfl
  · refine h'.ch.mono fun x hx => .inl ?_
    simp only [List.map_cons, List.mem_cons]; exact .inr hx
  · intro i f hf
    cases i with
    | zero => simp at hf; subst hf; exact hp_new _ _
    | succ i => exact h'.at_ i f (by simpa using hf)
  · intro i f hf
    cases i with
    | zero => simp at hf; subst hf; exact Nat.le_trans h.sz h.ch.size
    | succ i => exact h.ge i f (by simpa using hf)
  · intro i j f g hf hg hij
    cases i with
    | zero =>
      cases j with
      | zero => exact (hij rfl).elim
      | succ j =>
        simp at hf hg; subst hf
        have := h.lt (i := j) hg
        simp only; omega
    | succ i =>
      cases j with
      | zero =>
        simp at hf hg; subst hg
        have := h.lt (i := i) hf
        simp only; omega
      | succ j => exact h.nd i j f g (by simpa using hf) (by simpa using hg) (by omega)

variable {b : Nat} {cs : List Value} {e : TypeId}
theorem Lc.rd (h : Lc n0 w0 W tbl) (i : Nat) (hi : tbl[i]? = some (b, cs, e)) {f n : Nat} (hf : f + n ≤ cs.length) : rdL W ⟨b, f, none⟩ n = some ((cs.drop f).take n) := rdL_of (h.at_ i _ hi) (by simpa using hf)
theorem Lc.hp (h : Lc n0 w0 W tbl) (i : Nat) (hi : tbl[i]? = some (b, cs, e)) : W.heap[b]? = some (.cells cs.toArray e) := h.at_ i _ hi

theorem take_len {l : List Value} {f n : Nat} {r : List Value} (h : (l.drop f).take n = r) (hr : r.length = n) (hn : 0 < n) : f + n ≤ l.length := by
  have := congrArg List.length h
  rw [List.length_take, List.length_drop, hr] at this
  omega
/-- a number of a block is read -/
theorem Lc.ldi (h : Lc n0 w0 W tbl) (i : Nat) (hi : tbl[i]? = some (b, cs, e)) {k : IntKind} {f : Nat} {x : Int} {K : Int → World → Prop} (hx : (cs.drop f).take 1 = [.int k x]) (hk : K x W) : ld (lInt k) ((⟨b, 0, none⟩ : Addr).add f) K W := by
  rw [Addr.add_lit, Nat.zero_add]
  exact ld_int.2 ⟨x, by rw [h.rd i hi (take_len hx rfl (by decide)), hx], hk⟩
theorem Lc.ldi0 (h : Lc n0 w0 W tbl) (i : Nat) (hi : tbl[i]? = some (b, cs, e)) {k : IntKind} {x : Int} {K : Int → World → Prop} (hx : cs.take 1 = [.int k x]) (hk : K x W) : ld (lInt k) (⟨b, 0, none⟩ : Addr) K W := by
  have := h.ldi i hi (f := 0) (K := K) hx hk
  rwa [Addr.add_zero'] at this
theorem Lc.ldb (h : Lc n0 w0 W tbl) (i : Nat) (hi : tbl[i]? = some (b, cs, e)) {f : Nat} {x : Bool} {K : Bool → World → Prop} (hx : (cs.drop f).take 1 = [.bool x]) (hk : K x W) : ld lBool ((⟨b, 0, none⟩ : Addr).add f) K W := by
  rw [Addr.add_lit, Nat.zero_add]
  exact ld_bool.2 ⟨x, by rw [h.rd i hi (take_len hx rfl (by decide)), hx], hk⟩
theorem Lc.ldb0 (h : Lc n0 w0 W tbl) (i : Nat) (hi : tbl[i]? = some (b, cs, e)) {x : Bool} {K : Bool → World → Prop} (hx : cs.take 1 = [.bool x]) (hk : K x W) : ld lBool (⟨b, 0, none⟩ : Addr) K W := by
  have := h.ldb i hi (f := 0) (K := K) hx hk
  rwa [Addr.add_zero'] at this
theorem Lc.ldp (h : Lc n0 w0 W tbl) (i : Nat) (hi : tbl[i]? = some (b, cs, e)) {f : Nat} {x : Option Addr} {K : Option Addr → World → Prop} (hx : (cs.drop f).take 1 = [.pointer x]) (hk : K x W) : ld lPtr ((⟨b, 0, none⟩ : Addr).add f) K W := by
  rw [Addr.add_lit, Nat.zero_add]
  exact ld_ptr.2 ⟨x, by rw [h.rd i hi (take_len hx rfl (by decide)), hx], hk⟩
theorem Lc.ldp0 (h : Lc n0 w0 W tbl) (i : Nat) (hi : tbl[i]? = some (b, cs, e)) {x : Option Addr} {K : Option Addr → World → Prop} (hx : cs.take 1 = [.pointer x]) (hk : K x W) : ld lPtr (⟨b, 0, none⟩ : Addr) K W := by
  have := h.ldp i hi (f := 0) (K := K) hx hk
  rwa [Addr.add_zero'] at this
theorem Lc.ldm (h : Lc n0 w0 W tbl) (i : Nat) (hi : tbl[i]? = some (b, cs, e)) {f : Nat} {x : Option Nat} {K : Option Nat → World → Prop} (hx : (cs.drop f).take 1 = [.map x]) (hk : K x W) : ld lMap ((⟨b, 0, none⟩ : Addr).add f) K W := by
  rw [Addr.add_lit, Nat.zero_add]
  exact ld_map.2 ⟨x, by rw [h.rd i hi (take_len hx rfl (by decide)), hx], hk⟩
theorem Lc.lds (h : Lc n0 w0 W tbl) (i : Nat) (hi : tbl[i]? = some (b, cs, e)) {f : Nat} {a : Option Addr} {n c : Nat} {K : Sl → World → Prop} (hx : (cs.drop f).take 1 = [.slice a n c]) (hk : K ⟨a, n, c⟩ W) : ld lSl ((⟨b, 0, none⟩ : Addr).add f) K W := by
  rw [Addr.add_lit, Nat.zero_add]
  exact ld_sl.2 ⟨a, n, c, by rw [h.rd i hi (take_len hx rfl (by decide)), hx], hk⟩
theorem Lc.lds0 (h : Lc n0 w0 W tbl) (i : Nat) (hi : tbl[i]? = some (b, cs, e)) {a : Option Addr} {n c : Nat} {K : Sl → World → Prop} (hx : cs.take 1 = [.slice a n c]) (hk : K ⟨a, n, c⟩ W) : ld lSl (⟨b, 0, none⟩ : Addr) K W := by
  have := h.lds i hi (f := 0) (K := K) hx hk
  rwa [Addr.add_zero'] at this
/-- a structure of a block is read -/
theorem Lc.ldL (h : Lc n0 w0 W tbl) (i : Nat) (hi : tbl[i]? = some (b, cs, e)) {L : LTy} {f : Nat} (x : L.α) {K : L.α → World → Prop} (hx : (cs.drop f).take L.n = L.cells x) (hn : 0 < L.n) (hk : K x W) : ld L ((⟨b, 0, none⟩ : Addr).add f) K W := by
  rw [Addr.add_lit, Nat.zero_add]
  exact ld_eq.2 ⟨x, by rw [h.rd i hi (take_len hx (L.h_len x) hn), hx], hk⟩
theorem Lc.ldL0 (h : Lc n0 w0 W tbl) (i : Nat) (hi : tbl[i]? = some (b, cs, e)) {L : LTy} (x : L.α) {K : L.α → World → Prop} (hx : cs.take L.n = L.cells x) (hn : 0 < L.n) (hk : K x W) : ld L (⟨b, 0, none⟩ : Addr) K W := by
  have := h.ldL i hi (f := 0) (K := K) x hx hn hk
  rwa [Addr.add_zero'] at this
/-- cells are written -/
theorem Lc.st (h : Lc n0 w0 W tbl) (i : Nat) (hi : tbl[i]? = some (b, cs, e)) {f : Nat} {cs' : List Value} {K : World → Prop} (hf : f + cs'.length ≤ cs.length) (hk : ∀ W', Lc n0 w0 W' (tbl.set i (b, wrt cs f cs', e)) → Ch [b] W W' → K W') : Dk.st ((⟨b, 0, none⟩ : Addr).add f) cs' K W := by
  rw [Addr.add_lit, Nat.zero_add]
  have hil : i < tbl.length := by
    rcases Nat.lt_or_ge i tbl.length with h | h
    · exact h
    · rw [List.getElem?_eq_none h] at hi; cases hi
  have hti : tbl[i] = (b, cs, e) := by rw [List.getElem?_eq_getElem hil] at hi; exact Option.some.inj hi
  have hmap : (tbl.set i (b, wrt cs f cs', e)).map (·.1) = tbl.map (·.1) := by
    apply List.ext_getElem?
    intro j
    rw [List.getElem?_map, List.getElem?_map, List.getElem?_set]
    split
    · rename_i hj; subst hj
      rw [hi]; rfl
    · rfl
  refine st_i (h.hp i hi) rfl (by simpa using hf) (hk _ ⟨?_, ?_, ?_, ?_, h.sz⟩ (Ch.put _ _ (.inl (by simp))))
  · rw [hmap]
    exact h.ch.trans (Ch.put _ _ (.inl (List.mem_map.2 ⟨_, List.mem_of_getElem? hi, rfl⟩)))
  · intro j f' hj
    rw [List.getElem?_set] at hj
    split at hj
    · rename_i hij; subst hij
      cases hj
      exact hp_put_eq (h.hp i hi)
    · rename_i hij
      exact hp_put_ne (h.at_ j f' hj) (h.nd j i f' _ hj hi (fun e => hij e.symm))
  · intro j f' hj
    rw [List.getElem?_set] at hj
    split at hj
    · rename_i hij; subst hij
      cases hj
      exact h.ge i (b, cs, e) hi
    · exact h.ge j f' hj
  · intro j k f' g' hj hk' hjk
    have key : ∀ (j : Nat) (f' : TE), (tbl.set i (b, wrt cs f cs', e))[j]? = some f' → ∃ f0, tbl[j]? = some f0 ∧ f0.1 = f'.1 := by
      intro j f' hj
      rw [List.getElem?_set] at hj
      split at hj
      · rename_i hij; subst hij
        cases hj
        exact ⟨_, hi, rfl⟩
      · exact ⟨_, hj, rfl⟩
    obtain ⟨f0, h1, h2⟩ := key j f' hj
    obtain ⟨g0, h3, h4⟩ := key k g' hk'
    rw [← h2, ← h4]
    exact h.nd j k f0 g0 h1 h3 hjk
theorem Lc.st0 (h : Lc n0 w0 W tbl) (i : Nat) (hi : tbl[i]? = some (b, cs, e)) {cs' : List Value} {K : World → Prop} (hf : cs'.length ≤ cs.length) (hk : ∀ W', Lc n0 w0 W' (tbl.set i (b, wrt cs 0 cs', e)) → Ch [b] W W' → K W') : Dk.st (⟨b, 0, none⟩ : Addr) cs' K W := by
  have := h.st i hi (f := 0) (cs' := cs') (K := K) (by omega) hk
  rwa [Addr.add_zero'] at this
/-- a list of a block's elements -/
theorem Lc.sl (h : Lc n0 w0 W tbl) (i : Nat) (hi : tbl[i]? = some (b, cs, e)) {L : LTy} (xs : List L.α) {n : Nat} (hn : n = xs.length) (hx : cs = xs.flatMap L.cells) : slOwn L W ⟨some ⟨b, 0, none⟩, n, n⟩ xs := by
  refine ⟨hn, Nat.le_refl _, .inr ⟨b, 0, _, e, rfl, h.hp i hi, ?_, ?_⟩⟩
  · subst hx; subst hn
    show 0 + xs.length * L.n ≤ (xs.flatMap L.cells).toArray.size
    rw [List.size_toArray, flat_len]; omega
  · subst hx; subst hn
    show ((xs.flatMap L.cells).drop 0).take (xs.length * L.n) = _
    rw [List.drop_zero, List.take_of_length_le (by rw [flat_len]; exact Nat.le_refl _)]
end Go.Dk
namespace Go.Dk
theorem Lc.name {n0 : Nat} {w0 W : World} {tbl : Tbl} (h : Lc n0 w0 W tbl) : ∃ T, T = tbl ∧ Lc n0 w0 W T := ⟨tbl, rfl, h⟩
end Go.Dk
namespace Go.Dk
/-- a block that is no table's -/
theorem Lc.oth {n0 : Nat} {w0 W W' : World} {tbl : Tbl} (h : Lc n0 w0 W tbl) {k : Nat} (hc : Ch [k] W W') (hk : w0.heap.size ≤ k) (ho : ∀ c t, W.heap[k]? ≠ some (.cells c t)) : Lc n0 w0 W' tbl :=
  ⟨h.ch.trans' hc (fun x hx => by simp at hx; subst hx; exact .inr hk), fun i e he => hp_ch hc (h.at_ i e he) (fun hx => by simp at hx; have := h.at_ i e he; rw [hx] at this; exact ho _ _ this), h.ge, h.nd, h.sz⟩
end Go.Dk
