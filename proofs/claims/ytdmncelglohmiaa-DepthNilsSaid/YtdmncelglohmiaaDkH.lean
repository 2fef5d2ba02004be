/- An operation comes to what its formula says. -/
import Derived.Test.YtdmncelglohmiaaDkG
namespace Go.Dk
open Go
set_option linter.unusedSimpArgs false
set_option linter.unusedVariables false

variable {P : Program}

theorem getElem_reps (z : List Value) (hz : z.length ≠ 0) : ∀ (n i : Nat), i < n * z.length → (reps n z)[i]? = z[i % z.length]?
  | 0, i, h => by simp at h
  | n + 1, i, h => by
    have e : reps (n + 1) z = z ++ reps n z := by simp [reps, List.replicate_succ]
    rw [e]
    by_cases hi : i < z.length
    · rw [List.getElem?_append_left hi, Nat.mod_eq_of_lt hi]
    · have h' : i < n * z.length + z.length := by rw [Nat.add_mul, Nat.one_mul] at h; exact h
      rw [List.getElem?_append_right (by omega), getElem_reps z hz n (i - z.length) (by omega), show i % z.length = (i - z.length) % z.length from Nat.mod_eq_sub_mod (by omega)]

theorem length_reps (n : Nat) (z : List Value) : (reps n z).length = n * z.length := by
  simp [reps]

theorem range_reps (n : Nat) (z : Array Value) : (Array.range (n * z.size)).map (fun i => z[i % z.size]!) = (reps n z.toList).toArray := by
  by_cases hz : z.size = 0
  · have : z = #[] := by simpa using hz
    subst this
    simp [reps]
  · apply Array.ext
    · simp [length_reps]
    · intro i h1 h2
      simp only [Array.size_map, Array.size_range] at h1
      have := getElem_reps z.toList (by simpa using hz) n i (by simpa using h1)
      simp only [Array.getElem_map, Array.getElem_range, List.getElem_toArray]
      have hlt : i % z.size < z.size := Nat.mod_lt _ (by omega)
      have h3 : (reps n z.toList)[i]? = some (reps n z.toList)[i] := List.getElem?_eq_getElem (by simpa using h2)
      rw [h3] at this
      simp [hlt] at this ⊢
      exact this.symm

theorem run_firstCells {w : World} {s : Sl} {sz : Nat} {cs : List Value} (h : cellsAt w s sz cs) : (Builtin.firstCells sz s.len (.slice s.a s.len s.cap)).run P w = .ok cs.toArray w := by
  obtain ⟨hl, ⟨rfl, ha⟩ | ⟨p, ha, hp⟩⟩ := h
  · simp [Builtin.firstCells, ha]
  · simp only [Builtin.firstCells, ha, ← hl, run_loadCells hp]

theorem cellsAt_oneCell : True := trivial

theorem run_append {C : Cfg P} {t t2 ty e e2 : TypeId} {sz by_ : Nat} {z : List Value} {s x : Sl} {K : Sl → World → Prop} {w : World}
    (ht : C.tb t = .slice e) (ht2 : C.tb t2 = .slice e2) (hsz : C.sz e = some sz) (hby : C.by_ e = some by_) (hz : C.zl e = some z) (hb0 : by_ ≠ 0)
    (h : apnd e sz by_ z s x K w) :
    ∃ r w', (Builtin.append_ #[t, t2] ty #[.slice s.a s.len s.cap, .slice x.a x.len x.cap]).run P w = .ok (.slice r.a r.len r.cap) w' ∧ K r w' := by
  have hu : P.underlying t = some (.slice e) := by have := C.ok_tb t; rw [ht] at this; exact this
  have hu2 : P.underlying t2 = some (.slice e2) := by have := C.ok_tb t2; rw [ht2] at this; exact this
  obtain ⟨i, hi, his⟩ := C.ok_sz e sz hsz
  obtain ⟨i', hi', hib⟩ := C.ok_by e by_ hby
  obtain ⟨i'', v, hi'', hzv, hzc, hzs⟩ := C.ok_zl e z hz
  rw [hi] at hi' hi''; cases hi'; cases hi''
  obtain ⟨new, hnew, hon, h1, h2⟩ := h
  have hrn := run_firstCells (P := P) hnew
  unfold Builtin.append_
  simp only [List.getElem?_toArray, List.getElem?_cons_zero, List.getElem?_cons_succ, Sem.run_bind, run_underlying hu, run_underlying hu2, Result.andThen_ok, run_sizeOf' hi, Sem.run_pure, Bool.false_eq_true, if_false, Builtin.lenOf, his]
  by_cases hle : s.len + x.len ≤ s.cap
  · rw [if_pos hle]
    simp only [Bool.not_false, if_true, Sem.run_bind, hrn, Result.andThen_ok]
    rcases h1 hle with ⟨rfl, hk⟩ | ⟨a, ha, l, e', hbk, hsp, hln, hk⟩
    · cases hsa : s.a with
      | none => exact ⟨_, _, rfl, hsa ▸ hk⟩
      | some a => exact ⟨⟨s.a, s.len + x.len, s.cap⟩, w, by simp [storeCells, hsa], hk⟩
    · refine ⟨⟨s.a, s.len + x.len, s.cap⟩, _, ?_, hk⟩
      rw [ha]
      simp only [Sem.run_bind]
      generalize hp : a.add (s.len * sz) = p at *
      obtain ⟨b, off, sp⟩ := p
      simp only at hsp hbk hln; subst hsp
      rw [run_storeCells _ w b off 0 l hbk (by simpa using hln) hon]
      simp
  · rw [if_neg hle]
    obtain ⟨old, hold, hcap, hk⟩ := h2 (by omega)
    have hro := run_firstCells (P := P) hold
    simp only [run_typeInfo' hi, Sem.run_bind, Result.andThen_ok, hib, hb0, Bool.false_eq_true, or_self, and_false, if_false, Bool.not_false, if_true]
    rw [if_neg (by omega)]
    simp only [Sem.run_bind, run_choose_drew, Question.forced, Bool.false_eq_true, if_false, Result.andThen_ok, Question.cut]
    generalize hc : s.len + x.len + w.tape w.drawn (.appendCap (s.len + x.len) s.cap e) % (2 ^ 63 - (s.len + x.len)) = c
    have hlt63 : s.len + x.len < 2 ^ 63 := by
      have : s.len + x.len ≤ Builtin.nextslicecap (s.len + x.len) s.cap := by
        unfold Builtin.nextslicecap
        have grow : ∀ n r c, n ≤ Builtin.growBy n r c ∨ c ≤ Builtin.growBy n r c := fun n r => by
          induction r with
          | zero => intro c; right; exact Nat.le_refl _
          | succ r ih =>
            intro c
            unfold Builtin.growBy
            split
            · right; exact Nat.le_refl _
            · rcases ih (c + (c + 768) / 4) with h | h
              · exact .inl h
              · exact .inr (by omega)
        have grow4 : ∀ n c, n ≤ 2 * c → 256 ≤ c → n ≤ Builtin.growBy n 4 c := by
          intro n c h1 h2
          unfold Builtin.growBy
          split
          · omega
          · unfold Builtin.growBy
            split
            · omega
            · unfold Builtin.growBy
              split
              · omega
              · unfold Builtin.growBy
                split
                · omega
                · unfold Builtin.growBy; omega
        split
        · omega
        · split
          · omega
          · exact grow4 _ _ (by omega) (by omega)
      have : s.len + x.len ≤ 2 ^ 48 := by
        have h3 : Builtin.nextslicecap (s.len + x.len) s.cap * 1 ≤ Builtin.nextslicecap (s.len + x.len) s.cap * by_ := Nat.mul_le_mul_left _ (by omega)
        omega
      omega
    have hge : s.len + x.len ≤ c := by rw [← hc]; omega
    have hlt : c < 2 ^ 63 := by
      rw [← hc]
      have := Nat.mod_lt (w.tape w.drawn (.appendCap (s.len + x.len) s.cap e)) (show 0 < 2 ^ 63 - (s.len + x.len) by omega)
      omega
    have hro' : (Builtin.firstCells sz s.len (.slice s.a s.len s.cap)).run P w.drew = .ok old.toArray w.drew := by
      have : cellsAt w.drew s sz old := hold
      exact run_firstCells this
    have hrn' : (Builtin.firstCells sz x.len (.slice x.a x.len x.cap)).run P w.drew = .ok new.toArray w.drew := by
      have : cellsAt w.drew x sz new := hnew
      exact run_firstCells this
    refine ⟨_, _, ?_, hk c hge hlt⟩
    simp only [run_askRoom, run_typeInfo' hi, Result.andThen_ok, hro', hrn', run_zeroValue' hi hzv, Sem.run_bind, newRow, run_newObj_alloc, Sem.run_pure, Builtin.zeroCells, hzc]
    rw [range_reps]
    simp

theorem run_make {C : Cfg P} {t e : TypeId} {by_ : Nat} {z : List Value} {l c : Int} {k k' : IntKind} {K : Sl → World → Prop} {w : World}
    (ht : C.tb t = .slice e) (hby : C.by_ e = some by_) (hz : C.zl e = some z) (h : mks e by_ z l c K w) :
    ∃ r w', (Instr.makeSlice t (.int k l) (.int k' c)).run P w = .ok (.slice r.a r.len r.cap) w' ∧ K r w' := by
  have hu : P.underlying t = some (.slice e) := by have := C.ok_tb t; rw [ht] at this; exact this
  obtain ⟨i, hi, hib⟩ := C.ok_by e by_ hby
  obtain ⟨i'', v, hi'', hzv, hzc, hzs⟩ := C.ok_zl e z hz
  rw [hi] at hi''; cases hi''
  obtain ⟨h0, h1, h2, h3, hk⟩ := h
  have wr : ∀ n : Int, 0 ≤ n → n < 2 ^ 62 → IntKind.i64.wrap n = n := by
    intro n a b
    unfold IntKind.wrap IntKind.signed IntKind.bits
    simp only [Bool.true_and, decide_eq_true_eq]
    have : n % 2 ^ 64 = n := Int.emod_eq_of_lt a (by omega)
    rw [this, if_neg (by omega)]
  unfold Instr.makeSlice
  simp only [Sem.run_bind, run_underlying hu, Result.andThen_ok, asInt, asIntOf, Sem.run_pure, run_typeInfo' hi, hib, wr l (by omega) (by omega), wr c (by omega) (by omega)]
  have hg : (decide (c < 0) || decide ((by_ : Int) * c > 2 ^ 48) || decide (l < 0) || decide (l > c)) = false := by
    simp; omega
  simp only [hg, Bool.false_eq_true, if_false, Sem.run_bind, run_askRoom, Result.andThen_ok, run_sizeOf' hi]
  refine ⟨_, _, ?_, hk⟩
  by_cases hn : c.toNat * i.size = 0
  · rw [if_pos hn]
    have : reps c.toNat z = [] := by
      apply List.eq_nil_of_length_eq_zero; rw [length_reps, show z.length = i.size by rw [← hzs, hzc]; simp]; exact hn
    simp only [Sem.run_pure, Result.andThen_ok, newRow, Sem.run_bind, run_newObj_alloc, hn, this]
    simp [show Array.range 0 = #[] from rfl]
  · rw [if_neg hn]
    have hsz : i.size = z.toArray.size := by rw [← hzs, hzc]
    simp only [Sem.run_bind, run_zeroValue' hi hzv, Result.andThen_ok, Sem.run_pure, newRow, run_newObj_alloc, hzc]
    rw [hsz, range_reps]

end Go.Dk
