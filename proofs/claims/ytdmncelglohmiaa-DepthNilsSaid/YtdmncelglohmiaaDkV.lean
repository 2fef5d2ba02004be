/- Tables. -/
import Derived.Test.YtdmncelglohmiaaDkU
namespace Go.Dk
open Go
set_option linter.unusedSimpArgs false
set_option linter.unusedVariables false
universe u

variable {P : Program}

def look {α : Type u} : List (Nat × α) → Nat → Option α
  | [], _ => none
  | (k, a) :: r, t => match Nat.beq k t with | true => some a | false => look r t
theorem look_mem {α : Type u} : ∀ {l : List (Nat × α)} {t : Nat} {a : α}, look l t = some a → (t, a) ∈ l
  | [], _, _, h => by cases h
  | (k, b) :: r, t, a, h => by
    unfold look at h
    split at h
    · rename_i hb; cases h; rw [Nat.eq_of_beq_eq_true hb]; exact List.mem_cons_self
    · exact List.mem_cons_of_mem _ (look_mem h)
def memB : List Nat → Nat → Bool
  | [], _ => false
  | k :: r, t => match Nat.beq k t with | true => true | false => memB r t
theorem memB_mem : ∀ {l : List Nat} {t : Nat}, memB l t = true → t ∈ l
  | [], _, h => by cases h
  | k :: r, t, h => by
    unfold memB at h
    split at h
    · rename_i hb; rw [Nat.eq_of_beq_eq_true hb]; exact List.mem_cons_self
    · exact List.mem_cons_of_mem _ (memB_mem h)

theorem ok_tbL {l : List (Nat × TB)} (h : l.all (fun p => tbB P p.1 p.2) = true) (t : Nat) : TbOk P t ((look l t).getD .none) := by
  cases hl : look l t with
  | none => exact trivial
  | some b => exact tbB_ok (List.all_eq_true.1 h _ (look_mem hl))
def szB (P : Program) (t n : Nat) : Bool := match P.info? t with | some i => Nat.beq i.size n | none => false
theorem ok_szL {l : List (Nat × Nat)} (h : l.all (fun p => szB P p.1 p.2) = true) (t n : Nat) (hl : look l t = some n) : ∃ i, P.info? t = some i ∧ i.size = n := by
  have := List.all_eq_true.1 h _ (look_mem hl)
  unfold szB at this
  split at this
  · rename_i i hi; exact ⟨i, hi, Nat.eq_of_beq_eq_true this⟩
  · cases this
def byB (P : Program) (t n : Nat) : Bool := match P.info? t with | some i => Nat.beq i.bytes n | none => false
theorem ok_byL {l : List (Nat × Nat)} (h : l.all (fun p => byB P p.1 p.2) = true) (t n : Nat) (hl : look l t = some n) : ∃ i, P.info? t = some i ∧ i.bytes = n := by
  have := List.all_eq_true.1 h _ (look_mem hl)
  unfold byB at this
  split at this
  · rename_i i hi; exact ⟨i, hi, Nat.eq_of_beq_eq_true this⟩
  · cases this
theorem ok_zlL {l : List (Nat × List Value)} (h : l.all (fun p => zlkB P p.1 p.2) = true) (t : Nat) (z : List Value) (hl : look l t = some z) : ZlOk P t z :=
  zlkB_ok (List.all_eq_true.1 h _ (look_mem hl))
theorem ok_ltL {l : List (Nat × LTy)} (h : l.all (fun p => ltB P p.1 p.2) = true) (t : Nat) (L : LTy) (hl : look l t = some L) : LtOk P t L :=
  ltB_ok (List.all_eq_true.1 h _ (look_mem hl))
def zvB : Value → Value → Bool
  | .agg a, .agg b => zlB a.toList b.toList
  | a, b => zB a b
theorem zvB_eq {a b : Value} (h : zvB a b = true) : a = b := by
  unfold zvB at h
  split at h
  · rename_i a b
    have := zlB_eq h
    rw [Array.toList_inj.1 this]
  · exact zB_eq h
def zrB (P : Program) (t : Nat) (L : Option LTy) : Bool := match P.info? t, L with | some i, some L => (match i.zero with | some v => zvB v (L.enc L.zero) | none => false) | _, _ => false
theorem ok_zrL {l : List Nat} {lt : Nat → Option LTy} (h : l.all (fun t => zrB P t (lt t)) = true) (t : Nat) (L : LTy) (ht : memB l t = true) (hl : lt t = some L) : ∃ i, P.info? t = some i ∧ i.zero = some (L.enc L.zero) := by
  have := List.all_eq_true.1 h _ (memB_mem ht)
  unfold zrB at this
  rw [hl] at this
  split at this
  · rename_i i L' hi hL
    cases hL
    split at this
    · rename_i v hv; exact ⟨i, hi, by rw [hv, zvB_eq this]⟩
    · cases this
  · cases this
def fbB (P : Program) (f : Nat) : Bool := match P.funcs[f]? with | some fn => fn.body.isSome && !(fn.name == "runtime.NumGoroutine") | none => false
theorem ok_fbL {l : List Nat} (h : l.all (fun t => fbB P t) = true) (f : Nat) (hf : memB l f = true) : ∃ fn c, P.funcs[f]? = some fn ∧ fn.body = some c ∧ (fn.name == "runtime.NumGoroutine") = false := by
  have := List.all_eq_true.1 h _ (memB_mem hf)
  unfold fbB at this
  split at this
  · rename_i fn hfn
    simp only [Bool.and_eq_true, Bool.not_eq_true'] at this
    obtain ⟨c, hc⟩ := Option.isSome_iff_exists.1 this.1
    exact ⟨fn, c, hfn, hc, this.2⟩
  · cases this

end Go.Dk
