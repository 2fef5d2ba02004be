/- Code comes to what its formula says. -/
import Derived.Test.YtdmncelglohmiaaDkQ
namespace Go.Dk
open Go
set_option linter.unusedSimpArgs false
set_option linter.unusedVariables false

variable {P : Program} {C : Cfg P}

def marks (D : List Nat) : List Deferred := D.map fun r => { target := .collected r, args := #[] }
theorem fgt_length : ∀ (m : List Nat) (E : Env), (fgt m E).length = E.length
  | [], _ => rfl
  | t :: r, E => by simp [fgt, fgt_length r E]
theorem lkp_eq : ∀ (E : Env) (t : Nat), lkp E t = (E[t]?).join
  | [], t => by simp [lkp]
  | v :: r, 0 => by simp [lkp]
  | v :: r, t + 1 => by simp [lkp, lkp_eq r t]
theorem lkp_fgt : ∀ (m : List Nat) (E : Env) (t : Nat) (v : Value), lkp (fgt m E) t = some v → t ∉ m ∧ lkp E t = some v
  | [], E, t, v, h => ⟨by simp, h⟩
  | x :: r, E, t, v, h => by
    simp only [fgt] at h
    rw [lkp_eq, List.getElem?_set] at h
    split at h
    · split at h <;> cases h
    · rename_i hx
      rw [← lkp_eq] at h
      obtain ⟨h1, h2⟩ := lkp_fgt r E t v h
      exact ⟨by simp [Ne.symm hx, h1], h2⟩

theorem setO_length : ∀ (l : List (Nat × TypeId)) (E : Env) (x : StT C l), (setO C l E x).length = E.length
  | [], _, _ => rfl
  | [_], _, _ => length_upd _ _ _
  | _ :: y :: r, E, x => by simp only [setO, length_upd]; exact setO_length (y :: r) E x.2

/-- what is known behind a place where ways meet -/
theorem lkp_setO : ∀ (l : List (Nat × TypeId)) (E E1 : Env) (x : StT C l) (f : StT C l → Prop), decO C l E1 f → ∃ y, f y ∧ ∀ t v, lkp (setO C l E y) t = some v → lkp E1 t = some v ∨ lkp E t = some v
  | [], E, E1, x, f, h => ⟨(), h, fun t v hv => .inr hv⟩
  | [a], E, E1, x, f, h => by
    obtain ⟨u, hu, h⟩ := onO_iff.1 h
    obtain ⟨y, hy, h⟩ := onO_iff.1 h
    refine ⟨y, h, fun t v hv => ?_⟩
    simp only [setO] at hv
    rw [lkp_upd] at hv
    split at hv
    · rename_i hc; cases hv; left; rw [hc.1, hu, (lty C a.2).h_dec _ _ hy]
    · exact .inr hv
  | a :: b :: r, E, E1, x, f, h => by
    obtain ⟨u, hu, h⟩ := onO_iff.1 h
    obtain ⟨y, hy, h⟩ := onO_iff.1 h
    obtain ⟨z, hz, hk⟩ := lkp_setO (b :: r) E E1 x.2 _ h
    refine ⟨(y, z), hz, fun t v hv => ?_⟩
    simp only [setO] at hv
    rw [lkp_upd] at hv
    split at hv
    · rename_i hc; cases hv; left; rw [hc.1, hu, (lty C a.2).h_dec _ _ hy]
    · exact hk t v hv

theorem decO_ex : ∀ (l : List (Nat × TypeId)) (E1 : Env) (f : StT C l → Prop), decO C l E1 f → ∃ y, f y ∧ ∀ E t v, lkp (setO C l E y) t = some v → lkp E1 t = some v ∨ lkp E t = some v
  | [], E1, f, h => ⟨(), h, fun E t v hv => .inr hv⟩
  | [a], E1, f, h => by
    obtain ⟨u, hu, h⟩ := onO_iff.1 h
    obtain ⟨y, hy, h⟩ := onO_iff.1 h
    refine ⟨y, h, fun E t v hv => ?_⟩
    simp only [setO] at hv
    rw [lkp_upd] at hv
    split at hv
    · rename_i hc; cases hv; left; rw [hc.1, hu, (lty C a.2).h_dec _ _ hy]
    · exact .inr hv
  | a :: b :: r, E1, f, h => by
    obtain ⟨u, hu, h⟩ := onO_iff.1 h
    obtain ⟨y, hy, h⟩ := onO_iff.1 h
    obtain ⟨z, hz, hk⟩ := decO_ex (b :: r) E1 _ h
    refine ⟨(y, z), hz, fun E t v hv => ?_⟩
    simp only [setO] at hv
    rw [lkp_upd] at hv
    split at hv
    · rename_i hc; cases hv; left; rw [hc.1, hu, (lty C a.2).h_dec _ _ hy]
    · exact hk E t v hv

/-- the slots at a meeting point, agreed on by the frame that comes there -/
theorem agree_join {mods : List Nat} {outs : List (Nat × TypeId)} {E E1 : Env} {a a1 : Act} {y : StT C outs} (hA : Agree E a) (hA1 : Agree E1 a1) (hF : Fr mods a a1)
    (hy : ∀ E t v, lkp (setO C outs E y) t = some v → lkp E1 t = some v ∨ lkp E t = some v) : Agree (setO C outs (fgt mods E) y) a1 := by
  refine ⟨?_, fun t v hv => ?_⟩
  · rw [setO_length, fgt_length, hA.1, hF.1]
  · rcases hy _ t v hv with h | h
    · exact hA1.2 t v h
    · obtain ⟨hm, hl⟩ := lkp_fgt _ _ _ _ h
      rw [hF.2 t hm]; exact hA.2 t v hl

theorem agree_fgt {mods : List Nat} {E : Env} {a a1 : Act} (hA : Agree E a) (hF : Fr mods a a1) : ∀ t v, lkp (fgt mods E) t = some v → a1.tmps[t]? = some v := by
  intro t v h
  obtain ⟨hm, hl⟩ := lkp_fgt _ _ _ _ h
  rw [hF.2 t hm]; exact hA.2 t v hl

/-- what a way out owes -/
structure Outs (C : Cfg P) (m : List Nat) (nr : Bool) (a : Act) (K : Kt) (Kx : Nat → Kt) (Kr : Kt) (Q : Exit → Act → World → Prop) : Prop where
  n : ∀ E' D' a' w', Agree E' a' → a'.defers = marks D' → Fr m a a' → (nr = true → a'.defers = a.defers) → K E' D' w' → Q .normal a' w'
  x : ∀ id E' D' a' w', Agree E' a' → a'.defers = marks D' → Fr m a a' → (nr = true → a'.defers = a.defers) → Kx id E' D' w' → Q (.exit id) a' w'
  r : ∀ E' D' a' w', Agree E' a' → a'.defers = marks D' → Kr E' D' w' → Q .ret a' w'

theorem mods_sub {l mods : List Nat} (h : l.all (mods.contains ·) = true) : ∀ t ∈ l, t ∈ mods := by
  intro t ht
  have := List.all_eq_true.1 h t ht
  simpa using this

theorem updL_agree : ∀ (ds : List Nat) (vs : List Value) (E : Env) (tm : Array Value), Agree E { tmps := tm, defers := [] } → Agree (updL ds vs E) { tmps := (ds.zip vs).foldl (fun tm (x : Nat × Value) => tm.setIfInBounds x.1 x.2) tm, defers := [] }
  | [], vs, E, tm, h => by simpa [updL] using h
  | d :: ds, [], E, tm, h => by simpa [updL] using h
  | d :: ds, v :: vs, E, tm, h => by
    simp only [updL, List.zip_cons_cons, List.foldl_cons]
    exact updL_agree ds vs _ _ (h.put (some d) v)

theorem encA_length : ∀ (l : List TypeId) (x : ArT C l), (encA C l x).length = l.length
  | [], _ => rfl
  | [_], _ => rfl
  | _ :: u :: r, x => by simp [encA, encA_length (u :: r) x.2]


end Go.Dk
