/- Formulas for Go code: what suffices for an operation to come to K. -/
import Derived.RangeFuncLeaves
import Derived.RangeFuncRecord
import Derived.Laws.World
import Derived.Laws.NewFold
import Derived.Laws.Entries
import Derived.Deep.Draws
import Derived.RowKit
namespace Go.Dk
open Go
universe u

/-! ### helpers whose terms reduce by themselves -/
def onO {α : Type u} (x : Option α) (f : α → Prop) : Prop := match x with | some a => f a | none => False
def onB (c : Bool) (t f : Prop) : Prop := match c with | true => t | false => f

@[simp] theorem onO_some {α : Type u} (a : α) (f : α → Prop) : onO (some a) f = f a := rfl
@[simp] theorem onO_none {α : Type u} (f : α → Prop) : onO none f = False := rfl
@[simp] theorem onB_true (t f : Prop) : onB true t f = t := rfl
@[simp] theorem onB_false (t f : Prop) : onB false t f = f := rfl
theorem onB_of {c : Bool} {t f : Prop} (ht : c = true → t) (hf : c = false → f) : onB c t f := by cases c; exact hf rfl; exact ht rfl
theorem onO_iff {α : Type u} {x : Option α} {f : α → Prop} : onO x f ↔ ∃ a, x = some a ∧ f a := by cases x <;> simp
theorem onO_mono {α : Type u} {x : Option α} {f g : α → Prop} (h : ∀ a, f a → g a) (hx : onO x f) : onO x g := by cases x; exact hx; exact h _ hx
theorem onB_mono {c : Bool} {t f t' f' : Prop} (ht : t → t') (hf : f → f') (h : onB c t f) : onB c t' f' := by cases c; exact hf h; exact ht h

/-- the value's cells, as a list -/
def cellsL : Value → List Value
  | .agg cs => cs.toList
  | v => [v]
theorem cellsL_eq (v : Value) : v.cells = (cellsL v).toArray := by cases v <;> simp [Value.cells, cellsL]

/-! ### memory -/
/-- cs lie at p -/
def has (w : World) (p : Addr) (cs : List Value) : Prop :=
  p.spot = none ∧ ∃ l e fz, w.heap[p.block]? = some (.cells l e fz) ∧ (l.toList.drop p.off).take cs.length = cs ∧ p.off + cs.length ≤ l.size

/-- cs written over l from off on -/
def wrt (l : List Value) (off : Nat) (cs : List Value) : List Value := l.take off ++ cs ++ l.drop (off + cs.length)

/-- a store of the cells cs at p -/
def st (p : Addr) (cs : List Value) (K : World → Prop) (w : World) : Prop :=
  ∃ l e, w.heap[p.block]? = some (.cells l e) ∧ p.spot = none ∧ p.off + cs.length ≤ l.size ∧ K (w.putObj p.block (.cells (wrt l.toList p.off cs).toArray e))

/-- a new block -/
def newB (o : Obj) (K : Nat → World → Prop) (w : World) : Prop := K w.heap.size (w.alloc o)

/-! ### types of values -/
structure LTy where
  α : Type
  cells : α → List Value
  enc : α → Value
  agg : Bool
  n : Nat
  dec : Value → Option α
  zero : α
  keq : α → α → Bool
  h_agg : agg = true → ∀ x, enc x = .agg (cells x).toArray
  h_one : agg = false → ∀ x, cells x = [enc x] ∧ (∀ cs, enc x ≠ .agg cs)
  h_len : ∀ x, (cells x).length = n
  h_dec : ∀ v x, dec v = some x → v = enc x

def ld (L : LTy) (p : Addr) (K : L.α → World → Prop) (w : World) : Prop := ∃ x : L.α, has w p (L.cells x) ∧ K x w

/-- the type of one's own values, untyped: for whatever is not looked into -/
def lAny : LTy where
  α := { v : Value // ∀ cs, v ≠ .agg cs }
  cells v := [v.1]
  enc v := v.1
  agg := false
  n := 1
  dec v := match v with | .agg _ => none | .int k n => some ⟨.int k n, by simp⟩ | .func a b c => some ⟨.func a b c, by simp⟩ | _ => none
  zero := ⟨.tuple #[], by simp⟩
  keq _ _ := false
  h_agg h := by cases h
  h_one _ x := ⟨rfl, x.2⟩
  h_len _ := rfl
  h_dec v x h := by cases v <;> simp at h <;> subst h <;> rfl

def lInt (k : IntKind) : LTy where
  α := Int
  cells n := [.int k n]
  enc n := .int k n
  agg := false
  n := 1
  dec v := match v with | .int k' n => if k' = k then some n else none | _ => none
  zero := 0
  keq := fun a b => a == b
  h_agg h := by cases h
  h_one _ x := ⟨rfl, by simp⟩
  h_len _ := rfl
  h_dec v x h := by cases v <;> simp at h; obtain ⟨rfl, rfl⟩ := h; rfl

def lBool : LTy where
  α := Bool
  cells n := [.bool n]
  enc n := .bool n
  agg := false
  n := 1
  dec v := match v with | .bool n => some n | _ => none
  zero := false
  keq := fun a b => a == b
  h_agg h := by cases h
  h_one _ x := ⟨rfl, by simp⟩
  h_len _ := rfl
  h_dec v x h := by cases v <;> simp at h; subst h; rfl

def lStr : LTy where
  α := ByteArray
  cells n := [.string n]
  enc n := .string n
  agg := false
  n := 1
  dec v := match v with | .string n => some n | _ => none
  zero := ⟨#[]⟩
  keq := fun _ _ => false
  h_agg h := by cases h
  h_one _ x := ⟨rfl, by simp⟩
  h_len _ := rfl
  h_dec v x h := by cases v <;> simp at h; subst h; rfl

def lPtr : LTy where
  α := Option Addr
  cells n := [.pointer n]
  enc n := .pointer n
  agg := false
  n := 1
  dec v := match v with | .pointer n => some n | _ => none
  zero := none
  keq := fun _ _ => false
  h_agg h := by cases h
  h_one _ x := ⟨rfl, by simp⟩
  h_len _ := rfl
  h_dec v x h := by cases v <;> simp at h; subst h; rfl

def lMap : LTy where
  α := Option Nat
  cells n := [.map n]
  enc n := .map n
  agg := false
  n := 1
  dec v := match v with | .map n => some n | _ => none
  zero := none
  keq := fun _ _ => false
  h_agg h := by cases h
  h_one _ x := ⟨rfl, by simp⟩
  h_len _ := rfl
  h_dec v x h := by cases v <;> simp at h; subst h; rfl

/-- a slice -/
structure Sl where
  a : Option Addr
  len : Nat
  cap : Nat

def lSl : LTy where
  α := Sl
  cells s := [.slice s.a s.len s.cap]
  enc s := .slice s.a s.len s.cap
  agg := false
  n := 1
  dec v := match v with | .slice a n c => some ⟨a, n, c⟩ | _ => none
  zero := ⟨none, 0, 0⟩
  keq := fun _ _ => false
  h_agg h := by cases h
  h_one _ x := ⟨rfl, by simp⟩
  h_len _ := rfl
  h_dec v x h := by cases v <;> simp at h; subst h; rfl

/-- a function value -/
structure Fv where
  fn : Fn
  first : Array Value
  cap : Array Value

def lFunc : LTy where
  α := Option Fv
  cells s := [match s with | some f => .func f.fn f.first f.cap | none => .nilFunc]
  enc s := match s with | some f => .func f.fn f.first f.cap | none => .nilFunc
  agg := false
  n := 1
  dec v := match v with | .func a n c => some (some ⟨a, n, c⟩) | .nilFunc => some none | _ => none
  zero := none
  keq := fun _ _ => false
  h_agg h := by cases h
  h_one _ x := ⟨rfl, by cases x <;> simp⟩
  h_len _ := rfl
  h_dec v x h := by cases v <;> simp at h <;> subst h <;> rfl

def lUnit : LTy where
  α := Unit
  cells _ := [.tuple #[]]
  enc _ := .tuple #[]
  agg := false
  n := 1
  dec v := match v with | .tuple vs => (match vs.toList with | [] => some () | _ => none) | _ => none
  zero := ()
  keq := fun _ _ => false
  h_agg h := by cases h
  h_one _ x := ⟨rfl, by simp⟩
  h_len _ := rfl
  h_dec v x h := by
    cases v with
    | tuple vs => obtain ⟨l⟩ := vs; cases l with
      | nil => rfl
      | cons => simp at h
    | _ => simp at h

/-- several results -/
def lTup2 (A B : LTy) : LTy where
  α := A.α × B.α
  cells x := [.tuple #[A.enc x.1, B.enc x.2]]
  enc x := .tuple #[A.enc x.1, B.enc x.2]
  agg := false
  n := 1
  dec v := match v with | .tuple vs => (match vs.toList with | [a, b] => (match A.dec a, B.dec b with | some x, some y => some (x, y) | _, _ => none) | _ => none) | _ => none
  zero := (A.zero, B.zero)
  keq := fun _ _ => false
  h_agg h := by cases h
  h_one _ x := ⟨rfl, by simp⟩
  h_len _ := rfl
  h_dec v x h := by
    cases v with
    | tuple vs =>
      obtain ⟨l⟩ := vs
      rcases l with _ | ⟨a, _ | ⟨b, _ | ⟨c, r⟩⟩⟩ <;> simp at h
      cases ha : A.dec a <;> cases hb : B.dec b <;> simp [ha, hb] at h
      subst h; rw [A.h_dec a _ ha, B.h_dec b _ hb]
    | _ => simp at h

def lTup3 (A B C : LTy) : LTy where
  α := A.α × B.α × C.α
  cells x := [.tuple #[A.enc x.1, B.enc x.2.1, C.enc x.2.2]]
  enc x := .tuple #[A.enc x.1, B.enc x.2.1, C.enc x.2.2]
  agg := false
  n := 1
  dec v := match v with | .tuple vs => (match vs.toList with | [a, b, c] => (match A.dec a, B.dec b, C.dec c with | some x, some y, some z => some (x, y, z) | _, _, _ => none) | _ => none) | _ => none
  zero := (A.zero, B.zero, C.zero)
  keq := fun _ _ => false
  h_agg h := by cases h
  h_one _ x := ⟨rfl, by simp⟩
  h_len _ := rfl
  h_dec v x h := by
    cases v with
    | tuple vs =>
      obtain ⟨l⟩ := vs
      rcases l with _ | ⟨a, _ | ⟨b, _ | ⟨c, _ | ⟨d, r⟩⟩⟩⟩ <;> simp at h
      cases ha : A.dec a <;> cases hb : B.dec b <;> cases hc : C.dec c <;> simp [ha, hb, hc] at h
      subst h; rw [A.h_dec a _ ha, B.h_dec b _ hb, C.h_dec c _ hc]
    | _ => simp at h

end Go.Dk
