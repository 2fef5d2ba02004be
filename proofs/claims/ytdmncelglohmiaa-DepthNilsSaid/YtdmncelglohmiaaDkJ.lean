/- An operation comes to what its formula says: all operations. -/
import Derived.Test.YtdmncelglohmiaaDkI
namespace Go.Dk
open Go
set_option linter.unusedSimpArgs false
set_option linter.unusedVariables false

variable {P : Program} {C : Cfg P} {o : Oper} {a : Act} {ρ : Operand → Option Value} {K : Value → World → Prop} {w : World}

theorem eqGuard_plain {op : BinOp} {t : TypeId} {x y : Operand} {a b : Value} {w : World} (h : ∀ xs ys, ¬ (a = .agg xs ∧ b = .agg ys)) (h' : ¬ (a = .nilIface ∧ b = .nilIface)) : (Go.eqGuard op t x y a b).run P w = .ok () w := by
  unfold Go.eqGuard
  cases op <;> simp only [Bool.not_false, Bool.not_true, if_true, if_false, Bool.false_eq_true, Sem.run_pure] <;>
  · split
    · exact absurd ⟨rfl, rfl⟩ h'
    · exact absurd ⟨rfl, rfl⟩ (h _ _)
    · rfl

theorem eqGuard_same {op : BinOp} {t : TypeId} {x y x' y' : Operand} {xs ys : Array Value} : Go.eqGuard op t x y (.agg xs) (.agg ys) = Go.eqGuard op t x' y' (.agg xs) (.agg ys) := rfl

theorem eqIn_bool (d : Nat) {t : TypeId} (hu : P.underlying t = some .bool) (x y : Bool) : (Op.equalIn (d + 1) t (.bool x) (.bool y)).run P w = .ok (x == y) w := by
  simp only [Op.equalIn, Sem.run_bind, run_underlying hu, Result.andThen_ok, Sem.run_pure]
theorem eqIn_ptr (d : Nat) {t e : TypeId} (hu : P.underlying t = some (.pointer e)) (x : Option Addr) : (Op.equalIn (d + 1) t (.pointer x) (.pointer none)).run P w = .ok x.isNone w := by
  cases x <;> (simp only [Op.equalIn, Sem.run_bind, run_underlying hu, Result.andThen_ok, Sem.run_pure]; try rfl)
theorem eqIn_ptr2 (d : Nat) {t e : TypeId} (hu : P.underlying t = some (.pointer e)) (x : Addr) : (Op.equalIn (d + 1) t (.pointer none) (.pointer (some x))).run P w = .ok false w := by
  simp only [Op.equalIn, Sem.run_bind, run_underlying hu, Result.andThen_ok, Sem.run_pure]; rfl
theorem eqIn_sl (d : Nat) {t e : TypeId} (hu : P.underlying t = some (.slice e)) (x : Option Addr) (n c n' c' : Nat) : (Op.equalIn (d + 1) t (.slice x n c) (.slice none n' c')).run P w = .ok x.isNone w := by
  cases x <;> (simp only [Op.equalIn, Sem.run_bind, run_underlying hu, Result.andThen_ok, Sem.run_pure]; try rfl)

theorem eqV_run {t : TypeId} {a b : Value} {r : Bool} (h : eqV C t a b = some r) : (Op.equal t a b).run P w = .ok r w ∧ (∀ op x y, (Go.eqGuard op t x y a b).run P w = .ok () w) := by
  unfold eqV at h
  split at h
  · split at h
    · rename_i ht
      have hu : P.underlying t = some .bool := by have := C.ok_tb t; rw [ht] at this; exact this
      cases h
      exact ⟨eqIn_bool 9999 hu _ _, fun op x y => eqGuard_plain (by simp) (by simp)⟩
    · cases h
  · split at h
    · rename_i e ht
      have hu : P.underlying t = some (.pointer e) := by have := C.ok_tb t; rw [ht] at this; exact this
      cases h
      exact ⟨eqIn_ptr 9999 hu _, fun op x y => eqGuard_plain (by simp) (by simp)⟩
    · cases h
  · split at h
    · rename_i e ht
      have hu : P.underlying t = some (.pointer e) := by have := C.ok_tb t; rw [ht] at this; exact this
      cases h
      exact ⟨eqIn_ptr2 9999 hu _, fun op x y => eqGuard_plain (by simp) (by simp)⟩
    · cases h
  · split at h
    · rename_i e ht
      have hu : P.underlying t = some (.slice e) := by have := C.ok_tb t; rw [ht] at this; exact this
      cases h
      exact ⟨eqIn_sl 9999 hu _ _ _ _ _, fun op x y => eqGuard_plain (by simp) (by simp)⟩
    · cases h
  · split at h
    · rename_i L he hL
      split at h
      · rename_i x y hx hy
        cases h
        have E := C.ok_eq t L he hL x y w
        rw [← L.h_dec _ _ hx, ← L.h_dec _ _ hy] at E
        exact E
      · cases h
    · cases h
  · cases h

theorem binV_guard {op : BinOp} {t : TypeId} {x y : Operand} {a b v : Value} (h : binV op a b = some v) : (Go.eqGuard op t x y a b).run P w = .ok () w := by
  refine eqGuard_plain ?_ ?_
  · rintro xs ys ⟨rfl, rfl⟩; unfold binV at h; split at h <;> simp_all
  · rintro ⟨rfl, rfl⟩; unfold binV at h; split at h <;> simp_all

theorem run_binOp_ok {op : BinOp} {t u : TypeId} {x y : Operand} {v : Value} (ho : o.op = .binOp op t x y u) (h1 : (Go.eqGuard op t x y (a.eval x) (a.eval y)).run P w = .ok () w)
    (h2 : (binOp op t (a.eval x) (a.eval y)).run P w = .ok v w) : (execOp a.eval o).run P w = .ok (.value v) w := by
  rw [run_binOp ho, h1]; simp only [Result.andThen_ok, h2]

theorem divV_runs {op : BinOp} {t u : TypeId} {x y : Operand} {k k' : IntKind} {m n : Int} (ho : o.op = .binOp op t x y u) (hx : a.eval x = .int k m) (hy : a.eval y = .int k' n)
    (hk : op = .shl ∨ op = .shr ∨ k = k') (h : divV op k m n K w) : OpRuns P ((execOp a.eval o).run P w) K := by
  have hg : (Go.eqGuard op t x y (a.eval x) (a.eval y)).run P w = .ok () w := eqGuard_plain (by rw [hx]; simp) (by rw [hx]; simp)
  unfold divV at h
  split at h
  · obtain ⟨h0, h⟩ := h
    obtain rfl : k = k' := by simpa using hk
    exact .value _ w (run_binOp_ok ho hg (by rw [hx, hy]; simp [binOp, Op.intDiv, h0])) h
  · obtain ⟨h0, h⟩ := h
    obtain rfl : k = k' := by simpa using hk
    exact .value _ w (run_binOp_ok ho hg (by rw [hx, hy]; simp [binOp, Op.intDiv, h0])) h
  · obtain ⟨h0, h⟩ := h
    exact .value _ w (run_binOp_ok ho hg (by rw [hx, hy]; simp [binOp, Op.shift, show ¬ n < 0 by omega])) h
  · obtain ⟨h0, h⟩ := h
    exact .value _ w (run_binOp_ok ho hg (by rw [hx, hy]; simp [binOp, Op.shift, show ¬ n < 0 by omega])) h
  · exact h.elim

theorem run_bound {y : Nat} {k : IntKind} {n : Int} (code : BoundsCode) (h0 : 0 ≤ n) (h1 : n ≤ y) : (Instr.sliceBound (.int k n) y code).run P w = .ok n.toNat w := by
  unfold Instr.sliceBound; simp [Sem.run_bind, asIntOf, h0, h1]

theorem onIo_iff {v : Option (Option Value)} {d : Int} {f : Int → Prop} (h : onIo v d f) : (v = none ∧ f d) ∨ ∃ k n, v = some (some (.int k n)) ∧ f n := by
  unfold onIo at h; split at h
  · exact .inl ⟨rfl, h⟩
  · rename_i v'; obtain ⟨k, n, rfl, hf⟩ := onI_iff h; exact .inr ⟨k, n, rfl, hf⟩

theorem onIo_ex {v : Option (Option Value)} {d : Int} {f : Int → Prop} (h : onIo v d f) : ∃ m, ((v = none ∧ m = d) ∨ ∃ k, v = some (some (.int k m))) ∧ f m := by
  rcases onIo_iff h with ⟨e1, h⟩ | ⟨k, m, e1, h⟩
  · exact ⟨_, .inl ⟨e1, rfl⟩, h⟩
  · exact ⟨m, .inr ⟨k, e1⟩, h⟩

theorem opt_map_some {x : Option Operand} {v : Option Value} (h : x.map ρ = some v) : ∃ y, x = some y ∧ ρ y = v := by
  cases x with
  | none => cases h
  | some y => exact ⟨y, rfl, by simpa using h⟩

theorem run_bounds (isS : Bool) {len cap : Nat} {lo hi mx : Option Operand} {l h m : Int} (hρ : ∀ x v, ρ x = some v → a.eval x = v)
    (hm : (mx.map ρ = none ∧ m = cap) ∨ ∃ k, mx.map ρ = some (some (.int k m))) (hh : (hi.map ρ = none ∧ h = len ∧ mx = none) ∨ ∃ k, hi.map ρ = some (some (.int k h)))
    (hl : (lo.map ρ = none ∧ l = 0) ∨ ∃ k, lo.map ρ = some (some (.int k l))) (h0 : 0 ≤ l) (h1 : l ≤ h) (h2 : h ≤ m) (h3 : m ≤ cap) :
    (Instr.sliceBounds isS len cap (lo.map a.eval) (hi.map a.eval) (mx.map a.eval)).run P w = .ok (l.toNat, h.toNat, m.toNat) w := by
  unfold Instr.sliceBounds
  have bm : m = (m.toNat : Int) := by omega
  have bh : h = (h.toNat : Int) := by omega
  rcases hm with ⟨em, rfl⟩ | ⟨km, em⟩
  · have : mx = none := by cases mx; rfl; cases em
    subst this
    simp only [Option.map_none, Sem.run_bind, Sem.run_pure, Result.andThen_ok, Int.toNat_natCast]
    rcases hh with ⟨eh, rfl, _⟩ | ⟨kh, eh⟩
    · have : hi = none := by cases hi; rfl; cases eh
      subst this
      simp only [Option.map_none, Sem.run_bind, Sem.run_pure, Result.andThen_ok, Int.toNat_natCast]
      rcases hl with ⟨el, rfl⟩ | ⟨kl, el⟩
      · have : lo = none := by cases lo; rfl; cases el
        subst this; simp [Sem.run_bind]
      · obtain ⟨y, rfl, hy⟩ := opt_map_some el
        simp only [Option.map_some, Sem.run_bind, Sem.run_pure, hρ _ _ hy, run_bound _ h0 h1, Result.andThen_ok]
    · obtain ⟨z, rfl, hz⟩ := opt_map_some eh
      simp only [Option.map_some, Sem.run_bind, Sem.run_pure, hρ _ _ hz, run_bound _ (by omega : 0 ≤ h) h2, Result.andThen_ok]
      rcases hl with ⟨el, rfl⟩ | ⟨kl, el⟩
      · have : lo = none := by cases lo; rfl; cases el
        subst this; simp [Sem.run_bind]
      · obtain ⟨y, rfl, hy⟩ := opt_map_some el
        simp only [Option.map_some, Sem.run_bind, Sem.run_pure, hρ _ _ hy, run_bound _ h0 (show l ≤ (h.toNat : Int) by omega), Result.andThen_ok]
        try rfl
  · obtain ⟨u, rfl, hu⟩ := opt_map_some em
    simp only [Option.map_some, Sem.run_bind, Sem.run_pure, hρ _ _ hu, Sem.run_bind, run_bound _ (by omega : 0 ≤ m) h3, Result.andThen_ok]
    rcases hh with ⟨eh, _, hx⟩ | ⟨kh, eh⟩
    · cases hx
    · obtain ⟨z, rfl, hz⟩ := opt_map_some eh
      simp only [Option.map_some, Sem.run_bind, Sem.run_pure, hρ _ _ hz, run_bound _ (by omega : 0 ≤ h) (show h ≤ (m.toNat : Int) by omega), Result.andThen_ok]
      rcases hl with ⟨el, rfl⟩ | ⟨kl, el⟩
      · have : lo = none := by cases lo; rfl; cases el
        subst this; simp [Sem.run_bind]
      · obtain ⟨y, rfl, hy⟩ := opt_map_some el
        simp only [Option.map_some, Sem.run_bind, Sem.run_pure, hρ _ _ hy, run_bound _ h0 (show l ≤ (h.toNat : Int) by omega), Result.andThen_ok]
        try rfl

end Go.Dk
