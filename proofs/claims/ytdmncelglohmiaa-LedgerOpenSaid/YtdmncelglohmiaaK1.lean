/- Formulas for Go code: what suffices for an operation to come to K. -/
import Derived.RangeFuncLeaves
import Derived.RangeFuncRecord
import Derived.Laws.World
import Derived.Laws.NewFold
import Derived.Laws.Entries
import Derived.Deep.Draws
import Derived.RowKit
namespace Go.Dk
open Go
universe u

/-! ### helpers whose terms reduce by themselves -/
def onO {α : Type u} (x : Option α) (f : α → Prop) : Prop := match x with | some a => f a | none => False
def onB (c : Bool) (t f : Prop) : Prop := match c with | true => t | false => f

@[simp] theorem onO_some {α : Type u} (a : α) (f : α → Prop) : onO (some a) f = f a := rfl
@[simp] theorem onO_none {α : Type u} (f : α → Prop) : onO none f = False := rfl
@[simp] theorem onB_true (t f : Prop) : onB true t f = t := rfl
@[simp] theorem onB_false (t f : Prop) : onB false t f = f := rfl
theorem onB_of {c : Bool} {t f : Prop} (ht : c = true → t) (hf : c = false → f) : onB c t f := by cases c; exact hf rfl; exact ht rfl
theorem onO_iff {α : Type u} {x : Option α} {f : α → Prop} : onO x f ↔ ∃ a, x = some a ∧ f a := by cases x <;> simp
theorem onO_mono {α : Type u} {x : Option α} {f g : α → Prop} (h : ∀ a, f a → g a) (hx : onO x f) : onO x g := by cases x; exact hx; exact h _ hx
theorem onB_mono {c : Bool} {t f t' f' : Prop} (ht : t → t') (hf : f → f') (h : onB c t f) : onB c t' f' := by cases c; exact hf h; exact ht h

/-- the value's cells, as a list -/
def cellsL : Value → List Value
  | .agg cs => cs.toList
  | v => [v]
theorem cellsL_eq (v : Value) : v.cells = (cellsL v).toArray := by cases v <;> simp [Value.cells, cellsL]

/-! ### memory -/
/-- cs lie at p -/
def has (w : World) (p : Addr) (cs : List Value) : Prop :=
  p.spot = none ∧ ∃ l e fz, w.heap[p.block]? = some (.cells l e fz) ∧ (l.toList.drop p.off).take cs.length = cs ∧ p.off + cs.length ≤ l.size

/-- cs written over l from off on -/
def wrt (l : List Value) (off : Nat) (cs : List Value) : List Value := l.take off ++ cs ++ l.drop (off + cs.length)

/-- a store of the cells cs at p -/
def st (p : Addr) (cs : List Value) (K : World → Prop) (w : World) : Prop :=
  ∃ l e, w.heap[p.block]? = some (.cells l e) ∧ p.spot = none ∧ p.off + cs.length ≤ l.size ∧ K (w.putObj p.block (.cells (wrt l.toList p.off cs).toArray e))

/-- a new block -/
def newB (o : Obj) (K : Nat → World → Prop) (w : World) : Prop := K w.heap.size (w.alloc o)

/-! ### types of values -/
structure LTy where
  α : Type
  cells : α → List Value
  enc : α → Value
  agg : Bool
  n : Nat
  dec : Value → Option α
  zero : α
  keq : α → α → Bool
  h_agg : agg = true → ∀ x, enc x = .agg (cells x).toArray
  h_one : agg = false → ∀ x, cells x = [enc x] ∧ (∀ cs, enc x ≠ .agg cs)
  h_len : ∀ x, (cells x).length = n
  h_dec : ∀ v x, dec v = some x → v = enc x

def ld (L : LTy) (p : Addr) (K : L.α → World → Prop) (w : World) : Prop := ∃ x : L.α, has w p (L.cells x) ∧ K x w

/-- the type of one's own values, untyped: for whatever is not looked into -/
def lAny : LTy where
  α := { v : Value // ∀ cs, v ≠ .agg cs }
  cells v := [v.1]
  enc v := v.1
  agg := false
  n := 1
  dec v := match v with | .agg _ => none | .int k n => some ⟨.int k n, by simp⟩ | .func a b c => some ⟨.func a b c, by simp⟩ | _ => none
  zero := ⟨.tuple #[], by simp⟩
  keq _ _ := false
  h_agg h := by cases h
  h_one _ x := ⟨rfl, x.2⟩
  h_len _ := rfl
  h_dec v x h := by cases v <;> simp at h <;> subst h <;> rfl

def lInt (k : IntKind) : LTy where
  α := Int
  cells n := [.int k n]
  enc n := .int k n
  agg := false
  n := 1
  dec v := match v with | .int k' n => if k' = k then some n else none | _ => none
  zero := 0
  keq := fun a b => a == b
  h_agg h := by cases h
  h_one _ x := ⟨rfl, by simp⟩
  h_len _ := rfl
  h_dec v x h := by cases v <;> simp at h; obtain ⟨rfl, rfl⟩ := h; rfl

def lBool : LTy where
  α := Bool
  cells n := [.bool n]
  enc n := .bool n
  agg := false
  n := 1
  dec v := match v with | .bool n => some n | _ => none
  zero := false
  keq := fun a b => a == b
  h_agg h := by cases h
  h_one _ x := ⟨rfl, by simp⟩
  h_len _ := rfl
  h_dec v x h := by cases v <;> simp at h; subst h; rfl

def lStr : LTy where
  α := ByteArray
  cells n := [.string n]
  enc n := .string n
  agg := false
  n := 1
  dec v := match v with | .string n => some n | _ => none
  zero := ⟨#[]⟩
  keq := fun _ _ => false
  h_agg h := by cases h
  h_one _ x := ⟨rfl, by simp⟩
  h_len _ := rfl
  h_dec v x h := by cases v <;> simp at h; subst h; rfl

def lPtr : LTy where
  α := Option Addr
  cells n := [.pointer n]
  enc n := .pointer n
  agg := false
  n := 1
  dec v := match v with | .pointer n => some n | _ => none
  zero := none
  keq := fun _ _ => false
  h_agg h := by cases h
  h_one _ x := ⟨rfl, by simp⟩
  h_len _ := rfl
  h_dec v x h := by cases v <;> simp at h; subst h; rfl

def lMap : LTy where
  α := Option Nat
  cells n := [.map n]
  enc n := .map n
  agg := false
  n := 1
  dec v := match v with | .map n => some n | _ => none
  zero := none
  keq := fun _ _ => false
  h_agg h := by cases h
  h_one _ x := ⟨rfl, by simp⟩
  h_len _ := rfl
  h_dec v x h := by cases v <;> simp at h; subst h; rfl

/-- a slice -/
structure Sl where
  a : Option Addr
  len : Nat
  cap : Nat

def lSl : LTy where
  α := Sl
  cells s := [.slice s.a s.len s.cap]
  enc s := .slice s.a s.len s.cap
  agg := false
  n := 1
  dec v := match v with | .slice a n c => some ⟨a, n, c⟩ | _ => none
  zero := ⟨none, 0, 0⟩
  keq := fun _ _ => false
  h_agg h := by cases h
  h_one _ x := ⟨rfl, by simp⟩
  h_len _ := rfl
  h_dec v x h := by cases v <;> simp at h; subst h; rfl

/-- a function value -/
structure Fv where
  fn : Fn
  first : Array Value
  cap : Array Value

def lFunc : LTy where
  α := Option Fv
  cells s := [match s with | some f => .func f.fn f.first f.cap | none => .nilFunc]
  enc s := match s with | some f => .func f.fn f.first f.cap | none => .nilFunc
  agg := false
  n := 1
  dec v := match v with | .func a n c => some (some ⟨a, n, c⟩) | .nilFunc => some none | _ => none
  zero := none
  keq := fun _ _ => false
  h_agg h := by cases h
  h_one _ x := ⟨rfl, by cases x <;> simp⟩
  h_len _ := rfl
  h_dec v x h := by cases v <;> simp at h <;> subst h <;> rfl

def lUnit : LTy where
  α := Unit
  cells _ := [.tuple #[]]
  enc _ := .tuple #[]
  agg := false
  n := 1
  dec v := match v with | .tuple vs => (match vs.toList with | [] => some () | _ => none) | _ => none
  zero := ()
  keq := fun _ _ => false
  h_agg h := by cases h
  h_one _ x := ⟨rfl, by simp⟩
  h_len _ := rfl
  h_dec v x h := by
    cases v with
    | tuple vs => obtain ⟨l⟩ := vs; cases l with
      | nil => rfl
      | cons => simp at h
    | _ => simp at h

/-- several results -/
def lTup2 (A B : LTy) : LTy where
  α := A.α × B.α
  cells x := [.tuple #[A.enc x.1, B.enc x.2]]
  enc x := .tuple #[A.enc x.1, B.enc x.2]
  agg := false
  n := 1
  dec v := match v with | .tuple vs => (match vs.toList with | [a, b] => (match A.dec a, B.dec b with | some x, some y => some (x, y) | _, _ => none) | _ => none) | _ => none
  zero := (A.zero, B.zero)
  keq := fun _ _ => false
  h_agg h := by cases h
  h_one _ x := ⟨rfl, by simp⟩
  h_len _ := rfl
  h_dec v x h := by
    cases v with
    | tuple vs =>
      obtain ⟨l⟩ := vs
      rcases l with _ | ⟨a, _ | ⟨b, _ | ⟨c, r⟩⟩⟩ <;> simp at h
      cases ha : A.dec a <;> cases hb : B.dec b <;> simp [ha, hb] at h
      subst h; rw [A.h_dec a _ ha, B.h_dec b _ hb]
    | _ => simp at h

def lTup3 (A B C : LTy) : LTy where
  α := A.α × B.α × C.α
  cells x := [.tuple #[A.enc x.1, B.enc x.2.1, C.enc x.2.2]]
  enc x := .tuple #[A.enc x.1, B.enc x.2.1, C.enc x.2.2]
  agg := false
  n := 1
  dec v := match v with | .tuple vs => (match vs.toList with | [a, b, c] => (match A.dec a, B.dec b, C.dec c with | some x, some y, some z => some (x, y, z) | _, _, _ => none) | _ => none) | _ => none
  zero := (A.zero, B.zero, C.zero)
  keq := fun _ _ => false
  h_agg h := by cases h
  h_one _ x := ⟨rfl, by simp⟩
  h_len _ := rfl
  h_dec v x h := by
    cases v with
    | tuple vs =>
      obtain ⟨l⟩ := vs
      rcases l with _ | ⟨a, _ | ⟨b, _ | ⟨c, _ | ⟨d, r⟩⟩⟩⟩ <;> simp at h
      cases ha : A.dec a <;> cases hb : B.dec b <;> cases hc : C.dec c <;> simp [ha, hb, hc] at h
      subst h; rw [A.h_dec a _ ha, B.h_dec b _ hb, C.h_dec c _ hc]
    | _ => simp at h

end Go.Dk

namespace Go.Dk
open Go

inductive TB
  | none | bool | int (k : IntKind) | str | ptr (e : TypeId) | slice (e : TypeId) | map (k v : TypeId)
  | struct (fs : List (Nat × TypeId)) | array (n : Nat) (e : TypeId) | tup (ts : List TypeId)

def TbOk (P : Program) (t : TypeId) : TB → Prop
  | .none | .tup _ => True
  | .bool => P.underlying t = some .bool
  | .int k => P.underlying t = some (.int k)
  | .str => P.underlying t = some .string
  | .ptr e => P.underlying t = some (.pointer e)
  | .slice e => P.underlying t = some (.slice e)
  | .map k v => P.underlying t = some (.map k v)
  | .struct fs => ∃ f : Array Field, P.underlying t = some (.struct f) ∧ f.toList.map (fun x => (x.offset, x.type)) = fs
  | .array n e => P.underlying t = some (.array n e)

def tbB (P : Program) (t : TypeId) : TB → Bool
  | .none | .tup _ => true
  | .bool => match P.underlying t with | some .bool => true | _ => false
  | .int k => match P.underlying t with | some (.int k') => decide (k' = k) | _ => false
  | .str => match P.underlying t with | some .string => true | _ => false
  | .ptr e => match P.underlying t with | some (.pointer e') => e' == e | _ => false
  | .slice e => match P.underlying t with | some (.slice e') => e' == e | _ => false
  | .map k v => match P.underlying t with | some (.map k' v') => k' == k && v' == v | _ => false
  | .struct fs => match P.underlying t with | some (.struct f) => f.toList.map (fun x => (x.offset, x.type)) == fs | _ => false
  | .array n e => match P.underlying t with | some (.array n' e') => n' == n && e' == e | _ => false

theorem tbB_ok {P : Program} {t : TypeId} {b : TB} (h : tbB P t b = true) : TbOk P t b := by
  cases b <;> simp only [tbB, TbOk] at h ⊢ <;> split at h <;> simp_all

def aggD : TypeDesc → Bool
  | .struct _ | .array _ _ => true
  | _ => false

def LtOk (P : Program) (t : TypeId) (L : LTy) : Prop := ∃ i d, P.info? t = some i ∧ i.size = L.n ∧ P.underlying t = some d ∧ aggD d = L.agg

def ltB (P : Program) (t : TypeId) (L : LTy) : Bool :=
  match P.info? t, P.underlying t with | some i, some d => i.size == L.n && aggD d == L.agg | _, _ => false
theorem ltB_ok {P : Program} {t : TypeId} {L : LTy} (h : ltB P t L = true) : LtOk P t L := by
  unfold ltB at h; split at h
  · rename_i i d h1 h2; simp at h; exact ⟨i, d, h1, h.1, h2, h.2⟩
  · cases h

/-- plain zero values that are the same -/
def zB : Value → Value → Bool
  | .int k n, .int k' n' => decide (k = k') && n == n'
  | .bool a, .bool b => a == b
  | .string a, .string b => a.data == b.data
  | .pointer none, .pointer none => true
  | .slice none a b, .slice none c d => a == c && b == d
  | .map none, .map none => true
  | .nilFunc, .nilFunc => true
  | .nilIface, .nilIface => true
  | _, _ => false
theorem zB_eq {a b : Value} (h : zB a b = true) : a = b := by
  unfold zB at h; split at h <;> simp_all
  rename_i a b; cases a; cases b; simp_all

def zlB : List Value → List Value → Bool
  | [], [] => true
  | a :: r, b :: s => zB a b && zlB r s
  | _, _ => false
theorem zlB_eq : ∀ {a b : List Value}, zlB a b = true → a = b
  | [], [], _ => rfl
  | a :: r, b :: s, h => by
    simp [zlB] at h; rw [zB_eq h.1, zlB_eq h.2]
  | [], _ :: _, h => by simp [zlB] at h
  | _ :: _, [], h => by simp [zlB] at h

/-- the zero value's cells -/
def zc (P : Program) (t : TypeId) : Array Value := match (P.info? t).bind (·.zero) with | some v => v.cells | none => #[]

def ZlOk (P : Program) (t : TypeId) (l : List Value) : Prop := ∃ i v, P.info? t = some i ∧ i.zero = some v ∧ v.cells = l.toArray ∧ (v.cells.size = i.size)
def zlkB (P : Program) (t : TypeId) (l : List Value) : Bool :=
  match P.info? t with | some i => (match i.zero with | some v => zlB (cellsL v) l && l.length == i.size | none => false) | none => false
theorem zlkB_ok {P : Program} {t : TypeId} {l : List Value} (h : zlkB P t l = true) : ZlOk P t l := by
  unfold zlkB at h
  split at h
  · rename_i i hi
    split at h
    · rename_i v hv
      simp at h
      refine ⟨i, v, hi, hv, ?_, ?_⟩
      · rw [cellsL_eq, zlB_eq h.1]
      · rw [cellsL_eq, zlB_eq h.1]; simpa using h.2
    · cases h
  · cases h

/-! ### maps -/
structure Ent (α β : Type) where
  k : α
  v : β
  b : Nat

def entM (LK LV : LTy) (e : Ent LK.α LV.α) : MapEntry := ⟨LK.enc e.k, LV.enc e.v, e.b⟩
def mapObj (LK LV : LTy) (l : List (Ent LK.α LV.α)) (c : Nat) : Obj := .map (l.map (entM LK LV)).toArray c
def mapIs (LK LV : LTy) (w : World) (r : Nat) (l : List (Ent LK.α LV.α)) (c : Nat) : Prop := w.heap[r]? = some (mapObj LK LV l c)

section
variable {α β : Type} (keq : α → α → Bool)
def mfind (x : α) (l : List (Ent α β)) : Option β := (l.find? fun e => keq x e.k).map (·.v)
def mset (x : α) (v : β) (c : Nat) : List (Ent α β) → List (Ent α β)
  | [] => [⟨x, v, c⟩]
  | e :: r => if keq x e.k then ⟨x, v, e.b⟩ :: r else e :: mset x v c r
def mclk (x : α) (c : Nat) (l : List (Ent α β)) : Nat := if l.any fun e => keq x e.k then c else c + 1
def mdel (x : α) : List (Ent α β) → List (Ent α β)
  | [] => []
  | e :: r => if keq x e.k then r else e :: mdel x r
def mborn (x : α) (c : Nat) (l : List (Ent α β)) : Nat := match l.find? fun e => keq x e.k with | some e => e.b | none => c
def mstamp (s : Nat) (v : β) : List (Ent α β) → List (Ent α β)
  | [] => []
  | e :: r => if e.b = s then ⟨e.k, v, e.b⟩ :: r else e :: mstamp s v r
end

/-- what a map that may be nil holds -/
def mAt (LK LV : LTy) (w : World) (r : Option Nat) (l : List (Ent LK.α LV.α)) (c : Nat) : Prop := match r with | none => l = [] | some b => mapIs LK LV w b l c

def mget (LK LV : LTy) (r : Option Nat) (x : LK.α) (K : LV.α → Bool → World → Prop) (w : World) : Prop :=
  ∃ l c, mAt LK LV w r l c ∧ K ((mfind LK.keq x l).getD LV.zero) (mfind LK.keq x l).isSome w
def mput (LK LV : LTy) (r : Option Nat) (x : LK.α) (v : LV.α) (K : World → Prop) (w : World) : Prop :=
  ∃ b l c, r = some b ∧ mapIs LK LV w b l c ∧ K (w.putObj b (mapObj LK LV (mset LK.keq x v c l) (mclk LK.keq x c l)))
def mdl (LK LV : LTy) (r : Option Nat) (x : LK.α) (K : World → Prop) (w : World) : Prop :=
  (r = none ∧ K w) ∨ ∃ b l c, r = some b ∧ mapIs LK LV w b l c ∧ K (w.putObj b (mapObj LK LV (mdel LK.keq x l) c))
def ment (LK LV : LTy) (r : Option Nat) (x : LK.α) (K : LV.α → Int → World → Prop) (w : World) : Prop :=
  ∃ b l c, r = some b ∧ mapIs LK LV w b l c ∧
    K ((mfind LK.keq x l).getD LV.zero) (mborn LK.keq x c l) (w.putObj b (mapObj LK LV (mset LK.keq x ((mfind LK.keq x l).getD LV.zero) c l) (mclk LK.keq x c l)))
def mesto (LK LV : LTy) (r : Option Nat) (s : Int) (v : LV.α) (K : World → Prop) (w : World) : Prop :=
  ∃ b l c, r = some b ∧ mapIs LK LV w b l c ∧ (∃ e ∈ l, (e.b : Int) = s) ∧ K (w.putObj b (mapObj LK LV (mstamp s.toNat v l) c))
def mlen (r : Option Nat) (K : Int → World → Prop) (w : World) : Prop :=
  (r = none ∧ K 0 w) ∨ ∃ b es c, r = some b ∧ w.heap[b]? = some (.map es c) ∧ K (es.size : Int) w
def mrng (r : Option Nat) (K : Nat → World → Prop) (w : World) : Prop :=
  (r = none ∧ newB (.mapIter none 0 #[] 0) K w) ∨ ∃ b es c, r = some b ∧ w.heap[b]? = some (.map es c) ∧ newB (.mapIter (some b) c #[] c) K w
/-- the next one; whichever that is -/
def mnext (r : Nat) (K : Value → World → Prop) (w : World) : Prop :=
  (∃ a b d, w.heap[r]? = some (.mapIter none a b d) ∧ K (.tuple #[.bool false]) w) ∨
  ∃ m es c seen, w.heap[r]? = some (.mapIter (some m) c seen c) ∧ w.heap[m]? = some (.map es c) ∧ (∀ e ∈ es, e.born < c) ∧
    ∀ w1, (w1 = w ∨ w1 = w.drew) →
      ((∀ e ∈ es, e.born ∈ seen) → K (.tuple #[.bool false]) w1) ∧
      ∀ e ∈ es, e.born ∉ seen → K (.tuple #[.bool true, e.key, e.val]) (w1.putObj r (.mapIter (some m) c (seen.push e.born) c))
def mentry (r : Nat) (K : Value → Value → World → Prop) (w : World) : Prop :=
  ∃ m es c seen e, w.heap[r]? = some (.mapIter (some m) c seen c) ∧ w.heap[m]? = some (.map es c) ∧ seen.back? = some e.born ∧ es.find? (fun x => x.born == e.born) = some e ∧ K e.key e.val w

/-- what a type must meet whose values are keys -/
structure KeyOk (P : Program) (t : TypeId) (L : LTy) : Prop where
  eqv : ∀ x y, L.keq x y = true ↔ x = y
  chk : ∀ e x w, (Instr.checkKey e 10000 t (L.enc x)).run P w = .ok () w
  find : ∀ x (es : List MapEntry) (xs : List L.α) w, es.map (·.key) = xs.map L.enc →
    (Instr.findKey t (L.enc x) es).run P w = .ok (match es.zipIdx.find? (fun p => match xs[p.2]? with | some y => L.keq x y | none => false) with | some (e, i) => some (i, e.val) | none => none) w
  bits : ∀ x, Instr.sameBits 10000 (L.enc x) (L.enc x) = true

/-- .. and one whose values are compared -/
def EqOk (P : Program) (t : TypeId) (L : LTy) : Prop :=
  ∀ x y w, (Op.equal t (L.enc x) (L.enc y)).run P w = .ok (L.keq x y) w ∧ ∀ op a b, (Go.eqGuard op t a b (L.enc x) (L.enc y)).run P w = .ok () w

structure Cfg (P : Program) where
  tb : Nat → TB
  sz : Nat → Option Nat
  by_ : Nat → Option Nat
  zl : Nat → Option (List Value)
  hz : Nat → Bool
  lt : Nat → Option LTy
  ok_tb : ∀ t, TbOk P t (tb t)
  ok_sz : ∀ t n, sz t = some n → ∃ i, P.info? t = some i ∧ i.size = n
  ok_by : ∀ t n, by_ t = some n → ∃ i, P.info? t = some i ∧ i.bytes = n
  ok_zl : ∀ t l, zl t = some l → ZlOk P t l
  ok_hz : ∀ t, hz t = true → ∃ i v, P.info? t = some i ∧ i.zero = some v
  ok_lt : ∀ t L, lt t = some L → LtOk P t L
  ky : Nat → Bool
  eq_ : Nat → Bool
  zr : Nat → Bool
  fb : Nat → Bool
  ok_ky : ∀ t L, ky t = true → lt t = some L → KeyOk P t L
  ok_eq : ∀ t L, eq_ t = true → lt t = some L → EqOk P t L
  ok_zr : ∀ t L, zr t = true → lt t = some L → ∃ i, P.info? t = some i ∧ i.zero = some (L.enc L.zero)
  ok_fb : ∀ f, fb f = true → ∃ fn c, P.funcs[f]? = some fn ∧ fn.body = some c ∧ (fn.name == "runtime.NumGoroutine") = false

/-! ### calls -/
def retK (L : LTy) (K : L.α → World → Prop) : Ending → World → Prop := fun e w' => ∃ x : L.α, e = .returned (L.enc x) ∧ K x w'
/-- a call of function f -/
def cl (P : Program) (L : LTy) (f : FuncId) (args : Array Value) (K : L.α → World → Prop) (w : World) : Prop := Calls P f args w (retK L K)

/-- a call of a function value comes to R -/
def InvV (P : Program) (v : Value) (args : Array Value) (w : World) (R : Ending → World → Prop) : Prop :=
  match v with
  | .func (.func f) first cap => (∃ fn c, P.funcs[f]? = some fn ∧ fn.body = some c ∧ (fn.name == "runtime.NumGoroutine") = false) ∧ Calls P f (first ++ args ++ cap) w R
  | .func (.yield l) first _ => ∃ fn tmps assign body, (Instr.yield l (first ++ args)).run P w = .ok (.round l fn tmps assign body) w ∧ RoundIn Fence.wide 0 P l fn tmps assign body w R
  | _ => False
def clv (P : Program) (L : LTy) (v : Value) (args : Array Value) (K : L.α → World → Prop) (w : World) : Prop := InvV P v args w (retK L K)

/-! ### appends -/
def reps (n : Nat) (z : List Value) : List Value := (List.replicate n z).flatten
/-- the cells of a slice's elements -/
def cellsAt (w : World) (s : Sl) (sz : Nat) (cs : List Value) : Prop := cs.length = s.len * sz ∧ ((cs = [] ∧ s.a = none) ∨ ∃ p, s.a = some p ∧ has w p cs)
def apnd (e sz by_ : Nat) (z : List Value) (s x : Sl) (K : Sl → World → Prop) (w : World) : Prop :=
  ∃ new, cellsAt w x sz new ∧ new.all Value.oneCell' = true ∧
    (s.len + x.len ≤ s.cap → (new = [] ∧ K ⟨s.a, s.len + x.len, s.cap⟩ w) ∨ (∃ a, s.a = some a ∧ st (a.add (s.len * sz)) new (K ⟨s.a, s.len + x.len, s.cap⟩) w)) ∧
    (s.cap < s.len + x.len → ∃ old, cellsAt w s sz old ∧ Builtin.nextslicecap (s.len + x.len) s.cap * by_ ≤ 2 ^ 48 ∧
      ∀ c', s.len + x.len ≤ c' → c' < 2 ^ 63 → K ⟨some ⟨w.heap.size, 0, none⟩, s.len + x.len, c'⟩ (w.drew.alloc (.cells (old ++ new ++ reps (c' - (s.len + x.len)) z).toArray e)))

/-- make([]T, l, c) -/
def mks (e by_ : Nat) (z : List Value) (l c : Int) (K : Sl → World → Prop) (w : World) : Prop :=
  0 ≤ l ∧ l ≤ c ∧ (by_ : Int) * c ≤ 2 ^ 48 ∧ c < 2 ^ 62 ∧ newB (.cells (reps c.toNat z).toArray e) (fun b w' => K ⟨some ⟨b, 0, none⟩, l.toNat, c.toNat⟩ w') w

/-- where s[l:h:m] begins -/
def slA (a : Option Addr) (m l sz : Nat) : Option Addr := if m = l then a else a.map (·.add (l * sz))

/-! ### operators -/
def binV (op : BinOp) (a b : Value) : Option Value :=
  match op, a, b with
  | .add, .int k x, .int k' y => if k = k' then some (.int k (k.wrap (x + y))) else none
  | .sub, .int k x, .int k' y => if k = k' then some (.int k (k.wrap (x - y))) else none
  | .mul, .int k x, .int k' y => if k = k' then some (.int k (k.wrap (x * y))) else none
  | .and, .int k x, .int k' y => if k = k' then some (.int k (k.wrap ((BitVec.ofInt k.bits x &&& BitVec.ofInt k.bits y).toNat))) else none
  | .or, .int k x, .int k' y => if k = k' then some (.int k (k.wrap ((BitVec.ofInt k.bits x ||| BitVec.ofInt k.bits y).toNat))) else none
  | .xor, .int k x, .int k' y => if k = k' then some (.int k (k.wrap ((BitVec.ofInt k.bits x ^^^ BitVec.ofInt k.bits y).toNat))) else none
  | .andNot, .int k x, .int k' y => if k = k' then some (.int k (k.wrap ((BitVec.ofInt k.bits x &&& ~~~ BitVec.ofInt k.bits y).toNat))) else none
  | .eql, .int k x, .int k' y => if k = k' then some (.bool (x == y)) else none
  | .neq, .int k x, .int k' y => if k = k' then some (.bool (x != y)) else none
  | .lss, .int k x, .int k' y => if k = k' then some (.bool (decide (x < y))) else none
  | .leq, .int k x, .int k' y => if k = k' then some (.bool (decide (x ≤ y))) else none
  | .gtr, .int k x, .int k' y => if k = k' then some (.bool (decide (x > y))) else none
  | .geq, .int k x, .int k' y => if k = k' then some (.bool (decide (x ≥ y))) else none
  | .eql, .string x, .string y => some (.bool (x.toList == y.toList))
  | .neq, .string x, .string y => some (.bool (!(x.toList == y.toList)))
  | _, _, _ => none

/-- equality of what is no number -/
def eqV {P : Program} (C : Cfg P) (t : TypeId) (a b : Value) : Option Bool :=
  match a, b with
  | .bool x, .bool y => (match C.tb t with | .bool => some (x == y) | _ => none)
  | .pointer x, .pointer none => (match C.tb t with | .ptr _ => some x.isNone | _ => none)
  | .pointer none, .pointer (some _) => (match C.tb t with | .ptr _ => some false | _ => none)
  | .slice x _ _, .slice none _ _ => (match C.tb t with | .slice _ => some x.isNone | _ => none)
  | .agg xs, .agg ys =>
    (match C.eq_ t, C.lt t with
     | true, some L => (match L.dec (.agg xs), L.dec (.agg ys) with | some x, some y => some (L.keq x y) | _, _ => none)
     | _, _ => none)
  | _, _ => none

/-- the operators that may panic -/
def divV (op : BinOp) (k : IntKind) (x y : Int) (K : Value → World → Prop) (w : World) : Prop :=
  match op with
  | .quo => y ≠ 0 ∧ K (.int k (k.wrap (x.tdiv y))) w
  | .rem => y ≠ 0 ∧ K (.int k (x.tmod y)) w
  | .shl => 0 ≤ y ∧ K (.int k (k.wrap (x * 2 ^ (min y.toNat k.bits)))) w
  | .shr => 0 ≤ y ∧ K (.int k (x.fdiv (2 ^ (min y.toNat k.bits)))) w
  | _ => False

def unV (op : UnOp) (v : Value) : Option Value :=
  match op, v with
  | .not, .bool b => some (.bool !b)
  | .neg, .int k x => some (.int k (k.wrap (0 - x)))
  | .xor, .int k x => some (.int k (k.wrap ((BitVec.ofInt k.bits (if k.signed then -1 else k.max) ^^^ BitVec.ofInt k.bits x).toNat)))
  | _, _ => none

/-- min, max -/
def mmStep (mx : Bool) (acc : Option Value) (v : Value) : Option Value :=
  match acc, v with
  | some (.int k' a), .int k'' b => (match decide (k' = k'') with | true => some (.int k' (match mx with | true => (if b > a then b else a) | false => (if b < a then b else a))) | false => none)
  | _, _ => none
def mmV (mx : Bool) : List Value → Option Value
  | [] => none
  | .int k x :: r => r.foldl (mmStep mx) (some (.int k x))
  | _ => none

def allO (ρ : Operand → Option Value) : List Operand → Option (List Value)
  | [] => some []
  | x :: r => match ρ x, allO ρ r with | some v, some vs => some (v :: vs) | _, _ => none

/-- the cells of a struct's parts, field by field -/
def segs0 {P : Program} (C : Cfg P) : List (Nat × TypeId) → Option (List (List Value))
  | [] => some []
  | (_, t) :: r => match C.zl t, segs0 C r with | some z, some s => some (z :: s) | _, _ => none
def segsP : List (Nat × Value) → List (List Value) → Option (List (List Value))
  | [], s => some s
  | (i, v) :: r, s => match s[i]? with
    | some z => (match decide ((cellsL v).length = z.length) with | true => segsP r (s.set i (cellsL v)) | false => none)
    | none => none
/-- do the fields lie one behind the other? -/
def layB (fs : List (Nat × TypeId)) : List (List Value) → Nat → Bool
  | s :: r, off => (match fs with | (o, _) :: fs => o == off && layB fs r (off + s.length) | [] => false)
  | [], _ => fs.isEmpty

end Go.Dk

namespace Go.Dk
open Go

def onP (v : Option Value) (f : Addr → Prop) : Prop := match v with | some (.pointer q) => onO q f | _ => False
def onSl (v : Option Value) (f : Sl → Prop) : Prop := match v with | some (.slice a n c) => f ⟨a, n, c⟩ | _ => False
def onM (v : Option Value) (f : Option Nat → Prop) : Prop := match v with | some (.map r) => f r | _ => False
def onI (v : Option Value) (f : IntKind → Int → Prop) : Prop := match v with | some (.int k n) => f k n | _ => False
def onBl (v : Option Value) (f : Bool → Prop) : Prop := match v with | some (.bool b) => f b | _ => False
def onL (L : Option LTy) (v : Option Value) (f : (L : LTy) → L.α → Prop) : Prop := match L, v with | some L, some v => onO (L.dec v) (f L) | _, _ => False

def nilV (v : Value) (K : Value → Prop) : Prop :=
  match v with
  | .pointer q => onO q fun p => K (.pointer (some p))
  | .func (.func f) a b => K (.func (.func f) a b)
  | .func (.yield f) a b => K (.func (.yield f) a b)
  | _ => False

/-- a bound that may be missing -/
def onIo (v : Option (Option Value)) (d : Int) (f : Int → Prop) : Prop := match v with | none => f d | some v => onI v fun _ n => f n

/-- a part of a tuple, as its type has it -/
def exV (L : Option LTy) (v : Value) (K : Value → Prop) : Prop := match L with | some L => onO (L.dec v) fun x => K (L.enc x) | none => K v
theorem exV_use {L : Option LTy} {v : Value} {K : Value → Prop} (h : exV L v K) : K v := by
  unfold exV at h
  split at h
  · obtain ⟨x, hx, hk⟩ := onO_iff.1 h; rw [LTy.h_dec _ _ _ hx]; exact hk
  · exact h

variable {P : Program} (C : Cfg P)

def callF (ty : TypeId) (c : Call) (ρ : Operand → Option Value) (K : Value → World → Prop) (w : World) : Prop :=
  match c.callee with
  | .value (.func f) => (match C.fb f with
    | true => onO (C.lt ty) fun L => onO (allO ρ c.args.toList) fun vs => cl P L f vs.toArray (fun x w' => K (L.enc x) w') w
    | false => False)
  | .value x => onO (C.lt ty) fun L => onO (allO ρ c.args.toList) fun vs => onO (ρ x) fun v =>
      (match v with
       | .func (.func f) first cap => (match C.fb f with
         | true => cl P L f (first ++ vs.toArray ++ cap) (fun x w' => K (L.enc x) w') w
         | false => False)
       | v => clv P L v vs.toArray (fun x w' => K (L.enc x) w') w)
  | .invoke _ _ => False
  | .builtin b =>
    match b, c.args.toList, c.argTypes.toList with
    | .len, [x], [t] => (match C.tb t, ρ x with
      | .slice _, some (.slice _ n _) => K (.int .i64 n) w
      | .str, some (.string s) => K (.int .i64 s.size) w
      | .map _ _, some (.map r) => mlen r (fun n w' => K (.int .i64 n) w') w
      | .array n _, some _ => K (.int .i64 n) w
      | _, _ => False)
    | .append, [s, x], [t, t2] => (match C.tb t, C.tb t2 with
      | .slice e, .slice _ => onO (C.sz e) fun sz => onO (C.by_ e) fun by_ => onO (C.zl e) fun z => onSl (ρ s) fun s => onSl (ρ x) fun x =>
          by_ ≠ 0 ∧ apnd e sz by_ z s x (fun r w' => K (.slice r.a r.len r.cap) w') w
      | _, _ => False)
    | .delete, [m, k], [t, _] => (match C.tb t with
      | .map kt vt => (match C.ky kt with
        | true => onO (C.lt vt) fun LV => onL (C.lt kt) (ρ k) fun LK k => onM (ρ m) fun r => mdl LK LV r k (K (.tuple #[])) w
        | false => False)
      | _ => False)
    | .max, x :: r, _ => onO (allO ρ (x :: r)) fun vs => onO (mmV true vs) fun v => K v w
    | .min, x :: r, _ => onO (allO ρ (x :: r)) fun vs => onO (mmV false vs) fun v => K v w
    | _, _, _ => False

def opV (ty : TypeId) (op : Op) (ρ : Operand → Option Value) (K : Value → World → Prop) (w : World) : Prop :=
  match op with
  | .move x | .assign x => onO (ρ x) fun v => K v w
  | .pick c a b => onBl (ρ c) fun c => onB c (onO (ρ a) fun v => K v w) (onO (ρ b) fun v => K v w)
  | .alloc e => (match C.zl e with
    | some l => newB (.cells l.toArray e) (fun b w' => K (.pointer (some ⟨b, 0, none⟩)) w') w
    | none => (match C.hz e with | true => newB (.cells (zc P e) e) (fun b w' => K (.pointer (some ⟨b, 0, none⟩)) w') w | false => False))
  | .box e x => onO (ρ x) fun v => newB (.cells (cellsL v).toArray e) (fun b w' => K (.pointer (some ⟨b, 0, none⟩)) w') w
  | .build t parts => (match C.tb t, allO ρ (parts.toList.map (·.2)) with
    | .struct fs, some vs => onO (C.zl t) fun z => onO (segs0 C fs) fun s0 => onO (segsP ((parts.toList.map (·.1)).zip vs) s0) fun s1 =>
        (match layB fs s0 0 && zlB z s0.flatten with | true => K (.agg s1.flatten.toArray) w | false => False)
    | _, _ => False)
  | .buildSlice t len parts => (match C.tb t, allO ρ (parts.toList.map (·.2)) with
    | .slice e, some vs => onO (C.sz e) fun sz => (match decide (parts.toList.map (·.1) = List.range len) && vs.all (fun v => decide ((cellsL v).length = sz)) && decide (len * sz ≤ 2 ^ 24) && (match C.zl e with | some z => decide (z.length = sz) | none => false) with
      | true => newB (.cells (vs.flatMap cellsL).toArray e) (fun b w' => K (.slice (some ⟨b, 0, none⟩) len len) w') w
      | false => False)
    | _, _ => False)
  | .load t a => onO (C.lt t) fun L => onP (ρ a) fun p => ld L p (fun x w' => K (L.enc x) w') w
  | .store t a x => onO (C.sz t) fun n => onP (ρ a) fun p => onO (ρ x) fun v => (match decide ((cellsL v).length = n) && (cellsL v).all Value.oneCell' with | true => st p (cellsL v) (K undef) w | false => False)
  | .nilCheck x => onO (ρ x) fun v => nilV v fun v => K v w
  | .binOp op t x y _ => onO (ρ x) fun a => onO (ρ y) fun b =>
      (match binV op a b with
       | some v => K v w
       | none => (match op, a, b with
         | .eql, a, b => onO (eqV C t a b) fun r => K (.bool r) w
         | .neq, a, b => onO (eqV C t a b) fun r => K (.bool !r) w
         | op, .int k x, .int k' y => (match op with
            | .shl | .shr => divV op k x y K w
            | op => if k = k' then divV op k x y K w else False)
         | _, _, _ => False))
  | .unOp op _ x => onO (ρ x) fun a => onO (unV op a) fun v => K v w
  | .convert s d x => (match C.tb s, C.tb d with | .int _, .int k => onI (ρ x) fun _ n => K (.int k (k.wrap n)) w | _, _ => False)
  | .makeFunc fn first cap => onO (allO ρ first.toList) fun a => onO (allO ρ cap.toList) fun b => K (.func fn a.toArray b.toArray) w
  | .makeMap _ none => newB (.map #[] 0) (fun b w' => K (.map (some b)) w') w
  | .makeSlice t l c => (match C.tb t with
    | .slice e => onO (C.by_ e) fun by_ => onO (C.zl e) fun z => onI (ρ l) fun _ l => onI (ρ c) fun _ c => mks e by_ z l c (fun s w' => K (.slice s.a s.len s.cap) w') w
    | _ => False)
  | .slice t x lo hi mx => (match C.tb t, ρ x with
    | .slice e, some (.slice a n c) => (match mx.isSome && hi.isNone with | true => False | false => onO (C.sz e) fun sz => onIo (mx.map ρ) c fun m => onIo (hi.map ρ) n fun h => onIo (lo.map ρ) 0 fun l => 0 ≤ l ∧ l ≤ h ∧ h ≤ m ∧ m ≤ c ∧ K (.slice (slA a m.toNat l.toNat sz) (h.toNat - l.toNat) (m.toNat - l.toNat)) w)
    | .str, some (.string s) => (match mx with
      | none => onIo (hi.map ρ) s.size fun h => onIo (lo.map ρ) 0 fun l => 0 ≤ l ∧ l ≤ h ∧ h ≤ s.size ∧ K (.string (s.extract l.toNat h.toNat)) w
      | some _ => False)
    | _, _ => False)
  | .fieldAddr s x f => (match C.tb s with
    | .struct fs => onO fs[f]? fun ft => onO (C.sz ft.2) fun n => onP (ρ x) fun p => (match n with | 0 => False | _ + 1 => K (.pointer (some (p.add ft.1))) w)
    | _ => False)
  | .field t x f => (match C.tb t, ρ x with
    | .struct fs, some (.agg cs) => onO fs[f]? fun ft => (match C.tb ft.2 with
      | .struct _ | .array _ _ => onO (C.sz ft.2) fun n => K (.agg ((cs.toList.drop ft.1).take n).toArray) w
      | .none | .tup _ => False
      | _ => onO (cs.toList[ft.1]?) fun v => K v w)
    | _, _ => False)
  | .indexAddr t x i => (match C.tb t, ρ x with
    | .slice e, some (.slice a n _) => onO (C.sz e) fun sz => onI (ρ i) fun _ i => 0 ≤ i ∧ i < n ∧ onO a fun a => K (.pointer (some (a.add (i.toNat * sz)))) w
    | .array n e, some (.pointer q) => onO (C.sz e) fun sz => onI (ρ i) fun _ i => 0 ≤ i ∧ i < n ∧ onO q fun a => K (.pointer (some (a.add (i.toNat * sz)))) w
    | _, _ => False)
  | .index t x i => (match C.tb t, ρ x with
    | .str, some (.string s) => onI (ρ i) fun _ i => 0 ≤ i ∧ onO s[i.toNat]? fun b => K (.int .u8 b.toNat) w
    | _, _ => False)
  | .lookup t x i ok => (match C.tb t with
    | .map kt vt => (match C.ky kt && C.zr vt with
      | true => onO (C.lt vt) fun LV => onL (C.lt kt) (ρ i) fun LK k => onM (ρ x) fun r =>
          mget LK LV r k (fun v b w' => match ok with | true => K (.tuple #[LV.enc v, .bool b]) w' | false => K (LV.enc v) w') w
      | false => False)
    | _ => False)
  | .mapUpdate t m k x => (match C.tb t with
    | .map kt vt => (match C.ky kt with
      | true => onL (C.lt vt) (ρ x) fun LV v => onL (C.lt kt) (ρ k) fun LK k => onM (ρ m) fun r => mput LK LV r k v (K undef) w
      | false => False)
    | _ => False)
  | .mapEntry t m k => (match C.tb t with
    | .map kt vt => (match C.ky kt && C.zr vt with
      | true => onO (C.lt vt) fun LV => onL (C.lt kt) (ρ k) fun LK k => onM (ρ m) fun r => ment LK LV r k (fun v s w' => K (.tuple #[LV.enc v, .int .i64 s]) w') w
      | false => False)
    | _ => False)
  | .entryStore t m s x => (match C.tb t with
    | .map kt vt => onO (C.lt kt) fun LK => onL (C.lt vt) (ρ x) fun LV v => onI (ρ s) fun _ s => onM (ρ m) fun r => mesto LK LV r s v (K undef) w
    | _ => False)
  | .range t x => (match C.tb t with
    | .map _ _ => onM (ρ x) fun r => mrng r (fun b w' => K (.pointer (some ⟨b, 0, none⟩)) w') w
    | _ => False)
  | .next it false => (match ρ it with | some (.pointer (some ⟨r, 0, _⟩)) => mnext r K w | _ => False)
  | .entry it => (match ρ it with | some (.pointer (some ⟨r, 0, _⟩)) => mentry r (fun k v w' => K (.tuple #[k, v]) w') w | _ => False)
  | .extract x i => onO (ρ x) fun v => (match v with | .tuple vs => onO (vs.toList[i]?) fun v => exV (C.lt ty) v fun v => K v w | _ => False)
  | .call c => callF C ty c ρ K w
  | _ => False

end Go.Dk

namespace Go.Dk
open Go
set_option linter.unusedSimpArgs false
set_option linter.unusedVariables false

variable {P : Program}

theorem add_parts (p : Addr) (j : Nat) (h : p.spot = none) : p.add j = ⟨p.block, p.off + j, none⟩ := by
  unfold Addr.add; split
  · subst_vars; cases p; simp_all
  · rfl

theorem cell_at {w : World} {b off : Nat} {l : Array Value} {e : TypeId} {fz : Nat × Nat} (h : w.heap[b]? = some (.cells l e fz)) : w.cell? ⟨b, off, none⟩ = l[off]? := by
  simp [World.cell?, h]

theorem has_cell {w : World} {p : Addr} {cs : List Value} (h : has w p cs) (j : Nat) (hj : j < cs.length) : w.cell? (p.add j) = cs[j]? := by
  obtain ⟨hs, l, e, fz, hb, hc, _⟩ := h
  rw [add_parts p j hs, cell_at hb, ← hc]
  simp [List.getElem?_take, hj]

theorem run_loadCellsFrom {w : World} {p : Addr} : ∀ (n i : Nat) (acc : Array Value) (cs : List Value), cs.length = n → (∀ j, j < n → w.cell? (p.add (i + j)) = cs[j]?) →
    (loadCellsFrom p i n acc).run P w = .ok (acc ++ cs.toArray) w
  | 0, i, acc, cs, hn, _ => by
    have : cs = [] := List.eq_nil_of_length_eq_zero hn
    subst this; simp [loadCellsFrom]
  | n + 1, i, acc, cs, hn, h => by
    match cs, hn with
    | c :: r, hn =>
      have h0 := h 0 (by omega)
      simp at h0
      simp only [loadCellsFrom, Sem.run_bind, run_load, h0, Result.andThen_ok]
      rw [run_loadCellsFrom n (i + 1) (acc.push c) r (by simpa using hn)]
      · simp
      · intro j hj
        have := h (j + 1) (by omega)
        rw [show i + 1 + j = i + (j + 1) by omega]; simpa using this

theorem run_loadCells {w : World} {p : Addr} {cs : List Value} (h : has w p cs) : (loadCells p cs.length).run P w = .ok cs.toArray w := by
  unfold loadCells
  rw [run_loadCellsFrom cs.length 0 #[] cs rfl (fun j hj => by rw [Nat.zero_add]; exact has_cell h j hj)]
  simp

theorem run_underlying' {t : TypeId} {d : TypeDesc} (h : P.underlying t = some d) (w : World) : (underlying t).run P w = .ok d w := run_underlying h w

theorem run_isAgg' {t : TypeId} {d : TypeDesc} (h : P.underlying t = some d) (w : World) : (isAgg t).run P w = .ok (aggD d) w := by
  unfold isAgg; simp only [Sem.run_bind, run_underlying h, Result.andThen_ok]; cases d <;> rfl

theorem run_typeInfo' {t : TypeId} {i : TypeInfo} (h : P.info? t = some i) (w : World) : (typeInfo t).run P w = .ok i w := by
  unfold typeInfo; simp [Sem.run_bind, h]

theorem run_sizeOf' {t : TypeId} {i : TypeInfo} (h : P.info? t = some i) (w : World) : (sizeOf t).run P w = .ok i.size w := by
  unfold sizeOf; simp [Sem.run_bind, run_typeInfo' h]

theorem run_zeroValue' {t : TypeId} {i : TypeInfo} {v : Value} (h : P.info? t = some i) (hz : i.zero = some v) (w : World) : (zeroValue t).run P w = .ok v w := by
  unfold zeroValue; simp [Sem.run_bind, run_typeInfo' h, hz]

theorem run_loadVar' {w : World} {t : TypeId} {p : Addr} {L : LTy} (hL : LtOk P t L) (x : L.α) (h : has w p (L.cells x)) : (loadVar t p).run P w = .ok (L.enc x) w := by
  obtain ⟨i, d, hi, hn, hu, ha⟩ := hL
  unfold loadVar
  simp only [Sem.run_bind, run_isAgg' hu, Result.andThen_ok, ha]
  cases hg : L.agg with
  | true =>
    simp only [if_true, Sem.run_bind, run_sizeOf' hi, Result.andThen_ok, hn]
    have hl := L.h_len x
    rw [← hl, run_loadCells h]
    simp [L.h_agg hg x]
  | false =>
    obtain ⟨h1, _⟩ := L.h_one hg x
    rw [h1] at h
    have := has_cell h 0 (by simp)
    simp [Addr.add] at this
    simp [this]

/-- a cell turned, as a block turned -/
theorem setCell_put {w : World} {b off : Nat} {l : Array Value} {e : TypeId} {v : Value} (h : w.heap[b]? = some (.cells l e)) :
    w.setCell ⟨b, off, none⟩ v = w.putObj b (.cells (l.setIfInBounds off v) e) := by
  unfold World.setCell World.putObj
  congr 1
  obtain ⟨hlt, hb⟩ := Array.getElem?_eq_some_iff.1 h
  apply Array.ext
  · simp
  · intro i h1 h2
    rw [Array.getElem_modify]
    by_cases hbi : b = i
    · subst hbi; simp [hb]
    · rw [if_neg hbi, Array.getElem_setIfInBounds_ne _ hbi]

theorem putObj_putObj {w : World} {b : Nat} {o o' : Obj} : (w.putObj b o).putObj b o' = w.putObj b o' := by
  simp [World.putObj]

theorem putObj_same {w : World} {b : Nat} {o : Obj} (h : w.heap[b]? = some o) : w.putObj b o = w := by
  unfold World.putObj
  obtain ⟨hlt, hb⟩ := Array.getElem?_eq_some_iff.1 h
  have : w.heap.setIfInBounds b o = w.heap := by
    apply Array.ext
    · simp
    · intro i h1 h2
      by_cases hbi : b = i
      · subst hbi; simp [hb]
      · rw [Array.getElem_setIfInBounds_ne _ hbi]
  rw [this]

theorem wrt_nil (l : List Value) (off : Nat) : wrt l off [] = l := by simp [wrt]

theorem wrt_cons (l : List Value) (off : Nat) (c : Value) (cs : List Value) (h : off + (cs.length + 1) ≤ l.length) : wrt l off (c :: cs) = wrt (l.set off c) (off + 1) cs := by
  unfold wrt
  have e1 : (l.set off c).take (off + 1) = l.take off ++ [c] := by
    rw [List.take_set]
    rw [List.set_eq_take_append_cons_drop]
    simp [List.take_take, Nat.min_eq_left]
    omega
  have e2 : (l.set off c).drop (off + 1 + cs.length) = l.drop (off + (c :: cs).length) := by
    rw [List.drop_set_of_lt (by omega)]
    congr 1; simp; omega
  rw [e1, e2]; simp

theorem run_storeCells {e : TypeId} : ∀ (cs : List Value) (w : World) (b off i : Nat) (l : Array Value), w.heap[b]? = some (.cells l e) → off + i + cs.length ≤ l.size → cs.all Value.oneCell' = true →
    (storeCells ⟨b, off, none⟩ cs i).run P w = .ok () (w.putObj b (.cells (wrt l.toList (off + i) cs).toArray e))
  | [], w, b, off, i, l, h, _, _ => by
    simp [storeCells, wrt_nil, putObj_same h]
  | c :: cs, w, b, off, i, l, h, hl, ho => by
    simp only [List.length_cons] at hl
    simp only [List.all_cons, Bool.and_eq_true] at ho
    have hlt : b < w.heap.size := (Array.getElem?_eq_some_iff.1 h).1
    have hc : w.cell? ⟨b, off + i, none⟩ = l[off + i]? := cell_at h
    have hs : l[off + i]? = some l[off + i] := Array.getElem?_eq_getElem (by omega)
    have hf : w.frozen? ⟨b, off + i, none⟩ = false := by simp [World.frozen?, h]
    unfold storeCells
    rw [add_parts _ _ rfl]
    simp only [Sem.run_bind]
    rw [run_store P w _ c _ ho.1]
    simp only [hc, hs, hf, Bool.false_eq_true, if_false, Result.andThen_ok]
    rw [setCell_put h]
    have h' : (w.putObj b (.cells (l.setIfInBounds (off + i) c) e)).heap[b]? = some (.cells (l.setIfInBounds (off + i) c) e) := World.putObj_heap_same hlt
    rw [run_storeCells cs _ b off (i + 1) _ h' (by simp; omega) ho.2, putObj_putObj]
    congr 4
    rw [← Nat.add_assoc, wrt_cons _ _ _ _ (by simp; omega)]
    simp

theorem run_storeVar {w : World} {t : TypeId} {i : TypeInfo} {p : Addr} {v : Value} {l : Array Value} {e : TypeId} (hi : P.info? t = some i) (hn : (cellsL v).length = i.size)
    (ho : (cellsL v).all Value.oneCell' = true) (hs : p.spot = none) (h : w.heap[p.block]? = some (.cells l e)) (hl : p.off + (cellsL v).length ≤ l.size) :
    (storeVar t p v).run P w = .ok () (w.putObj p.block (.cells (wrt l.toList p.off (cellsL v)).toArray e)) := by
  unfold storeVar
  simp only [Sem.run_bind, run_sizeOf' hi, Result.andThen_ok, cellsL_eq]
  simp only [hn, List.size_toArray, ne_eq, not_true_eq_false, if_false]
  obtain ⟨b, off, spot⟩ := p
  simp only at hs; subst hs
  exact run_storeCells _ w b off 0 l h (by simpa using hl) ho

end Go.Dk

namespace Go.Dk
open Go
set_option linter.unusedSimpArgs false
set_option linter.unusedVariables false

variable {P : Program}

def fw (rd : Option Nat) : Fence := { Fence.wide with round := rd }

theorem callsIn_fw {rd : Option Nat} {n : Nat} {f : FuncId} {args : Array Value} {w : World} {R : Ending → World → Prop} : CallsIn (fw rd) n P f args w R ↔ Calls P f args w R := by
  rw [← callsIn_wide (n := n)]
  exact Iff.rfl

theorem roundIn_fw {rd : Option Nat} {l n : Nat} {f : FuncId} {tmps : Array Value} {as_ body : Code} {w : World} {R : Ending → World → Prop} :
    RoundIn (fw rd) n P l f tmps as_ body w R ↔ RoundIn Fence.wide 0 P l f tmps as_ body w R := by
  constructor
  · exact fun h => ⟨trivial, fun c cs _ => h.2 c cs (fun _ h => by cases h)⟩
  · exact fun h => ⟨trivial, fun c cs _ => h.2 c cs (room_wide _)⟩

/-- an ending that is a return -/
def Ret (K : Value → World → Prop) : Ending → World → Prop := fun e w' => ∃ v, e = .returned v ∧ K v w'

inductive OpRuns (P : Program) (r : Result Next) (K : Value → World → Prop) : Prop
  | value (v : Value) (w' : World) (h : r = .ok (.value v) w') (hk : K v w')
  | skip (w' : World) (h : r = .ok .skip w') (hk : K undef w')
  | enter (f : FuncId) (args : Array Value) (w' : World) (h : r = .ok (.enter f args) w') (hk : Calls P f args w' (Ret K))
  | round (l : Nat) (f : FuncId) (tmps : Array Value) (as_ body : Code) (w' : World) (h : r = .ok (.round l f tmps as_ body) w') (hk : RoundIn Fence.wide 0 P l f tmps as_ body w' (Ret K))

theorem wpIn_of_runs {rd : Option Nat} {o : Oper} {a : Act} {w : World} {next : Act → World → Prop} {Q : Exit → Act → World → Prop} (hd : ∀ c, o.op ≠ .defer c)
    {K : Value → World → Prop} (h : OpRuns P ((execOp a.eval o).run P w) K) (hK : ∀ v w', K v w' → next (a.put o.dst v) w') : o.wpIn (fw rd) 0 P a w next Q := by
  refine ⟨fun _ _ => trivial, ?_⟩
  rw [Oper.semAt_eq _ _ _ hd]
  cases h with
  | value v w' h hk => rw [h]; exact hK _ _ hk
  | skip w' h hk => rw [h]; exact hK _ _ hk
  | enter f args w' h hk =>
    rw [h]
    refine ⟨(fun h => by cases h), callsIn_fw.2 (hk.mono fun e w'' he => ?_)⟩
    obtain ⟨v, rfl, hv⟩ := he
    exact hK _ _ hv
  | round l f tmps as_ body w' h hk =>
    rw [h]
    refine ⟨(fun h => by cases h), roundIn_fw.2 (hk.mono fun e w'' he => ?_)⟩
    obtain ⟨v, rfl, hv⟩ := he
    exact hK _ _ hv

theorem allO_map {ρ : Operand → Option Value} {η : Operand → Value} (hρ : ∀ x v, ρ x = some v → η x = v) : ∀ {l : List Operand} {vs : List Value}, allO ρ l = some vs → l.map η = vs
  | [], vs, h => by simp [allO] at h; subst h; rfl
  | x :: r, vs, h => by
    unfold allO at h
    split at h
    · rename_i v vs' h1 h2
      cases h
      rw [List.map_cons, hρ x v h1, allO_map hρ h2]
    · cases h

theorem binV_run {op : BinOp} {t : TypeId} {a b v : Value} {w : World} (h : binV op a b = some v) : (binOp op t a b).run P w = .ok v w := by
  unfold binV at h
  split at h <;> first
    | (split at h
       · rename_i hk; subst hk; cases h; simp [binOp, Op.intArith, Op.intBits, Op.intCmp, Op.stringOp]
       · cases h)
    | (cases h; simp [binOp, Op.stringOp]; done)
    | (cases h; rfl)
    | cases h

theorem eqGuard_num {op : BinOp} {t : TypeId} {x y : Operand} {a b v : Value} {w : World} (h : binV op a b = some v) : (Go.eqGuard op t x y a b).run P w = .ok () w := by
  unfold Go.eqGuard
  unfold binV at h
  split at h <;> first
    | cases h; done
    | (simp; done)
    | simp

theorem run_binOp {o : Oper} {a : Act} {op : BinOp} {t u : TypeId} {x y : Operand} {w : World} (ho : o.op = .binOp op t x y u) :
    (execOp a.eval o).run P w = ((Go.eqGuard op t x y (a.eval x) (a.eval y)).run P w).andThen fun _ w' => ((binOp op t (a.eval x) (a.eval y)).run P w').andThen fun v w'' => .ok (.value v) w'' := by
  unfold execOp; simp only [ho, Sem.run_bind, Sem.run_pure]
  cases (Go.eqGuard op t x y (a.eval x) (a.eval y)).run P w <;> rfl


end Go.Dk

namespace Go.Dk
open Go
set_option linter.unusedSimpArgs false
set_option linter.unusedVariables false

variable {P : Program}

/-- cells written one by one -/
theorem foldl_write : ∀ (cs : List Value) (k off : Nat) (l : Array Value), off + k + cs.length ≤ l.size →
    ((cs.zipIdx k).foldl (fun (cs : Array Value) (x : Value × Nat) => cs.setIfInBounds (off + x.2) x.1) l) = (wrt l.toList (off + k) cs).toArray
  | [], k, off, l, _ => by simp [wrt_nil]
  | c :: cs, k, off, l, h => by
    simp only [List.length_cons] at h
    rw [List.zipIdx_cons, List.foldl_cons, foldl_write cs (k + 1) off _ (by simp; omega), ← Nat.add_assoc, wrt_cons _ _ _ _ (by simp; omega)]
    simp

theorem cells_foldl (v : Value) (off : Nat) (l : Array Value) (h : off + (cellsL v).length ≤ l.size) :
    v.cells.zipIdx.foldl (fun cs (c, j) => cs.setIfInBounds (off + j) c) l = (wrt l.toList off (cellsL v)).toArray := by
  rw [cellsL_eq, ← Array.foldl_toList]
  simp only [Array.toList_zipIdx]
  have := foldl_write (cellsL v) 0 off l (by simpa using h)
  simpa using this

theorem wrt_seg : ∀ (segs : List (List Value)) (i off : Nat) (z c : List Value), segs[i]? = some z → off = ((segs.take i).flatten).length → c.length = z.length →
    wrt segs.flatten off c = (segs.set i c).flatten
  | [], i, off, z, c, h, _, _ => by simp at h
  | s :: r, 0, off, z, c, h, ho, hc => by
    simp at h ho; subst h; subst ho
    simp [wrt, hc]
  | s :: r, i + 1, off, z, c, h, ho, hc => by
    simp at h ho
    have := wrt_seg r i _ z c h rfl hc
    simp only [List.set_cons_succ, List.flatten_cons, ← this]
    unfold wrt
    have e1 : off = s.length + ((r.take i).flatten).length := by rw [ho]; simp
    rw [e1]
    have : s.length + (List.take i r).flatten.length + c.length = s.length + ((List.take i r).flatten.length + c.length) := by omega
    rw [this, List.take_append, List.drop_append]
    simp [List.take_of_length_le]

theorem seg_bound : ∀ (segs : List (List Value)) (i : Nat) (z : List Value), segs[i]? = some z → ((segs.take i).flatten).length + z.length ≤ segs.flatten.length
  | [], i, z, h => by simp at h
  | s :: r, 0, z, h => by simp at h; subst h; simp
  | s :: r, i + 1, z, h => by
    simp at h
    have := seg_bound r i z h
    simp; simp at this; omega

/-- what 'fill' comes to -/
theorem fill_segs (place : Nat → Option (Nat × Nat)) : ∀ (parts : List (Nat × Value)) (segs s1 : List (List Value)),
    (∀ i z, segs[i]? = some z → place i = some (((segs.take i).flatten).length, z.length)) → segsP parts segs = some s1 →
    Instr.fill place segs.flatten.toArray parts = some s1.flatten.toArray
  | [], segs, s1, _, h => by simp [segsP] at h; subst h; rfl
  | (i, v) :: r, segs, s1, hp, h => by
    unfold segsP at h
    split at h
    · rename_i z hz
      split at h
      · rename_i hd
        simp at hd
        have hpl := hp i z hz
        have hb := seg_bound segs i z hz
        unfold Instr.fill
        rw [hpl]
        simp only [cellsL_eq, List.size_toArray, hd]
        rw [if_neg (by intro hh; simp only [List.size_toArray, ne_eq, not_true_eq_false, decide_false, bne_self_eq_false, Bool.false_or, decide_eq_true_eq, Bool.or_eq_true, hd] at hh; omega)]
        rw [← cellsL_eq, cells_foldl _ _ _ (by simp only [List.size_toArray]; omega)]
        rw [show (segs.flatten.toArray).toList = segs.flatten from rfl, wrt_seg segs i _ z _ hz rfl hd]
        refine fill_segs place r _ s1 ?_ h
        have key : ∀ j, ((segs.set i (cellsL v)).take j).flatten.length = ((segs.take j).flatten).length := by
          intro j
          have hm : (segs.set i (cellsL v)).map List.length = segs.map List.length := by
            rw [List.map_set]
            apply List.ext_getElem?
            intro k
            rw [List.getElem?_set]
            split
            · subst_vars; split
              · rw [List.getElem?_map, hz]; simp [hd]
              · rename_i hk; simp at hk; simp [List.getElem?_eq_none hk]
            · rfl
          rw [List.length_flatten, List.length_flatten, List.map_take, List.map_take, hm]
        intro j y hy
        rw [List.getElem?_set] at hy
        split at hy
        · subst_vars
          split at hy
          · cases hy; rw [key, hpl, hd]
          · cases hy
        · rw [key]; exact hp j y hy
      · cases h
    · cases h

theorem lay_place : ∀ (fs : List (Nat × TypeId)) (segs : List (List Value)) (off : Nat), layB fs segs off = true →
    ∀ i z, segs[i]? = some z → ∃ f, fs[i]? = some f ∧ f.1 = off + ((segs.take i).flatten).length
  | fs, [], off, _, i, z, h => by simp at h
  | fs, s :: r, off, hl, i, z, h => by
    unfold layB at hl
    split at hl
    · rename_i o t fs'
      simp at hl
      cases i with
      | zero => exact ⟨(o, t), rfl, by simp [hl.1]⟩
      | succ i =>
        simp at h
        obtain ⟨f, h1, h2⟩ := lay_place fs' r _ hl.2 i z h
        exact ⟨f, by simpa using h1, by simp [h2]; omega⟩
    · cases hl

theorem segs0_size {C : Cfg P} : ∀ (fs : List (Nat × TypeId)) (s : List (List Value)), segs0 C fs = some s → ∀ (i : Nat) (z : List Value) (f : Nat × TypeId), s[i]? = some z → fs[i]? = some f → ∃ info, P.info? f.2 = some info ∧ info.size = z.length
  | [], s, h, i, z, f, hz, hf => by simp at hf
  | (o, t) :: r, s, h, i, z, f, hz, hf => by
    unfold segs0 at h
    split at h
    · rename_i z0 s0 h1 h2
      cases h
      cases i with
      | zero =>
        simp at hz hf; subst hz; subst hf
        obtain ⟨info, v, hi, _, hc, hn⟩ := C.ok_zl t _ h1
        exact ⟨info, hi, by rw [← hn, hc]; simp⟩
      | succ i => simp at hz hf; exact segs0_size r s0 h2 i z f hz hf
    · cases h

theorem mapM_run {α β : Type} (g : α → Sem β) (f : α → β) (w : World) : ∀ (l : List α), (∀ x ∈ l, (g x).run P w = .ok (f x) w) → (l.mapM g).run P w = .ok (l.map f) w
  | [], _ => by simp
  | x :: r, h => by
    rw [List.mapM_cons]
    simp only [Sem.run_bind, h x (by simp), Result.andThen_ok, mapM_run g f w r (fun y hy => h y (by simp [hy])), Sem.run_pure, List.map_cons]

theorem arr_mapM_run {α β : Type} (g : α → Sem β) (f : α → β) (w : World) (a : Array α) (h : ∀ x ∈ a.toList, (g x).run P w = .ok (f x) w) : (a.mapM g).run P w = .ok (a.toList.map f).toArray w := by
  rw [Array.mapM_eq_mapM_toList]
  simp only [Functor.map, Sem.run_bind']
  have := mapM_run g f w a.toList h
  simp only [this, Result.andThen_ok]
  rfl

theorem run_build {C : Cfg P} {t : TypeId} {fs : List (Nat × TypeId)} {parts : Array (Nat × Value)} {s0 s1 : List (List Value)} {z : List Value} {w : World}
    (ht : C.tb t = .struct fs) (hz : C.zl t = some z) (h0 : segs0 C fs = some s0) (h1 : segsP parts.toList s0 = some s1) (hl : layB fs s0 0 = true) (hzz : zlB z s0.flatten = true) :
    (Instr.build t parts).run P w = .ok (.agg s1.flatten.toArray) w := by
  obtain ⟨f, hu, hfs⟩ : ∃ f : Array Field, P.underlying t = some (.struct f) ∧ f.toList.map (fun x => (x.offset, x.type)) = fs := by have := C.ok_tb t; rw [ht] at this; exact this
  obtain ⟨info, v, hi, hv, hc, _⟩ := C.ok_zl t z hz
  unfold Instr.build
  simp only [Sem.run_bind, run_zeroValue' hi hv, Result.andThen_ok, run_underlying hu]
  have hlen : s0.length = fs.length := by
    clear h1 hl hzz ht hz hc hfs
    induction fs generalizing s0 with
    | nil => simp [segs0] at h0; subst h0; rfl
    | cons x r ih =>
      obtain ⟨o, t⟩ := x
      unfold segs0 at h0
      split at h0
      · rename_i z0 s0' e1 e2; cases h0; simp [ih e2]
      · cases h0
  have hpl : ∀ x ∈ f.toList, (do pure (x.offset, ← sizeOf x.type) : Sem (Nat × Nat)).run P w = .ok (x.offset, P.cellsOf x.type) w := by
    intro x hx
    obtain ⟨i, hi', hx'⟩ := List.getElem_of_mem hx
    have e1 : fs[i]? = some (x.offset, x.type) := by rw [← hfs, List.getElem?_map, List.getElem?_eq_getElem hi', hx']; rfl
    have : i < s0.length := by rw [hlen, ← hfs]; simpa using hi'
    obtain ⟨inf, hinf, hsz⟩ := segs0_size fs s0 h0 i _ _ (List.getElem?_eq_getElem this) e1
    simp only [Sem.run_bind, run_sizeOf' hinf, Result.andThen_ok, Sem.run_pure, Program.cellsOf, hinf]
    rfl
  rw [arr_mapM_run _ (fun x => (x.offset, P.cellsOf x.type)) w f hpl]
  simp only [Result.andThen_ok, hc, zlB_eq hzz]
  have hfill := fill_segs (fun i => (f.toList.map fun x => (x.offset, P.cellsOf x.type)).toArray[i]?) parts.toList s0 s1 ?_ h1
  · simp only [hfill]; rfl
  · intro i y hy
    obtain ⟨g, hg, hgo⟩ := lay_place fs s0 0 hl i y hy
    obtain ⟨inf, hinf, hsz⟩ := segs0_size fs s0 h0 i y g hy hg
    have hfi : (f.toList)[i]?.map (fun x => (x.offset, x.type)) = some g := by rw [← List.getElem?_map, hfs, hg]
    cases hx : f.toList[i]? with
    | none => simp [hx] at hfi
    | some x =>
      simp [hx] at hfi
      simp [hx, ← hfi]
      rw [← hfi] at hgo hinf
      simp at hgo hinf
      refine ⟨by simpa using hgo, by simp [Program.cellsOf, hinf, hsz]⟩

end Go.Dk

namespace Go.Dk
open Go
set_option linter.unusedSimpArgs false
set_option linter.unusedVariables false

variable {P : Program}

theorem run_getMap {w : World} {b : Nat} {es : Array MapEntry} {c : Nat} (h : w.heap[b]? = some (.map es c)) : (getObj b).run P w = .ok (.map es c) w := by simp [getObj, Sem.run, h]
theorem run_setMap {w : World} {b : Nat} {es : Array MapEntry} {c : Nat} (o : Obj) (h : w.heap[b]? = some (.map es c)) : (setObj b o).run P w = .ok () (w.putObj b o) := by simp [setObj, Sem.run, h, World.putObj]
theorem run_getIter {w : World} {b : Nat} {m : Option Nat} {s : Nat} {seen : Array Nat} {c : Nat} (h : w.heap[b]? = some (.mapIter m s seen c)) : (getObj b).run P w = .ok (.mapIter m s seen c) w := by simp [getObj, Sem.run, h]
theorem run_setIter {w : World} {b : Nat} {m : Option Nat} {s : Nat} {seen : Array Nat} {c : Nat} (o : Obj) (h : w.heap[b]? = some (.mapIter m s seen c)) : (setObj b o).run P w = .ok () (w.putObj b o) := by simp [setObj, Sem.run, h, World.putObj]

section
variable {LK LV : LTy}

/-- the place of the key, as 'findKey' tells it -/
def place (keq : LK.α → LK.α → Bool) (x : LK.α) : List (Ent LK.α LV.α) → Nat → Option (Nat × Value)
  | [], _ => none
  | e :: r, i => if keq x e.k then some (i, LV.enc e.v) else place keq x r (i + 1)

theorem find_place (x : LK.α) : ∀ (l : List (Ent LK.α LV.α)) (pre : List LK.α) ,
    (match ((l.map (entM LK LV)).zipIdx pre.length).find? (fun p => match (pre ++ l.map (·.k))[p.2]? with | some y => LK.keq x y | none => false) with | some (e, i) => some (i, e.val) | none => none) = place (LV := LV) LK.keq x l pre.length
  | [], pre => by simp [place]
  | e :: r, pre => by
    have ih := find_place x r (pre ++ [e.k])
    simp only [List.length_append, List.length_singleton, List.append_assoc, List.singleton_append] at ih
    simp only [List.map_cons, List.zipIdx_cons, List.find?_cons]
    have e1 : (pre ++ e.k :: r.map (·.k))[pre.length]? = some e.k := by simp
    rw [e1]
    unfold place
    cases hk : LK.keq x e.k with
    | true => simp [hk, entM]
    | false => simp only [hk, if_false, Bool.false_eq_true]; exact ih

theorem run_find {t : TypeId} (K : KeyOk P t LK) (x : LK.α) (l : List (Ent LK.α LV.α)) (w : World) : (Instr.findKey t (LK.enc x) (l.map (entM LK LV))).run P w = .ok (place (LV := LV) LK.keq x l 0) w := by
  rw [K.find x (l.map (entM LK LV)) (l.map (·.k)) w (by simp [entM])]
  have := find_place (LV := LV) x l []
  simp only [List.length_nil, List.nil_append] at this
  exact congrArg (fun z => Result.ok z w) this

theorem place_find (keq : LK.α → LK.α → Bool) (x : LK.α) : ∀ (l : List (Ent LK.α LV.α)) (i : Nat),
    (place (LV := LV) keq x l i = none ∧ mfind keq x l = none ∧ l.any (fun e => keq x e.k) = false ∧ (∀ v c, mset keq x v c l = l ++ [⟨x, v, c⟩]) ∧ mdel keq x l = l ∧ (∀ c, mborn keq x c l = c)) ∨
    ∃ j e, place (LV := LV) keq x l i = some (i + j, LV.enc e.v) ∧ l[j]? = some e ∧ mfind keq x l = some e.v ∧ keq x e.k = true ∧ l.any (fun e => keq x e.k) = true ∧ (∀ v c, mset keq x v c l = l.set j ⟨x, v, e.b⟩) ∧ mdel keq x l = l.eraseIdx j ∧ (∀ c, mborn keq x c l = e.b)
  | [], i => .inl ⟨rfl, rfl, rfl, fun _ _ => rfl, rfl, fun _ => rfl⟩
  | e :: r, i => by
    cases hk : keq x e.k with
    | true => exact .inr ⟨0, e, by simp [place, hk], rfl, by simp [mfind, hk], hk, by simp [hk], fun v c => by simp [mset, hk], by simp [mdel, hk], fun c => by simp [mborn, hk]⟩
    | false =>
      rcases place_find keq x r (i + 1) with ⟨h1, h2, h3, h4, h5, h6⟩ | ⟨j, e', h1, h2, h3, h4, h5, h6, h7, h8⟩
      · exact .inl ⟨by simp [place, hk, h1], by simpa [mfind, hk] using h2, by simpa [hk] using h3, fun v c => by simp [mset, hk, h4], by simp [mdel, hk, h5], fun c => by simpa [mborn, hk] using h6 c⟩
      · refine .inr ⟨j + 1, e', by simp [place, hk, h1]; omega, by simpa using h2, by simpa [mfind, hk] using h3, h4, by simpa [hk] using h5, fun v c => by simp [mset, hk, h6], by simp [mdel, hk, h7], fun c => by simpa [mborn, hk] using h8 c⟩

theorem run_lookup {t kt vt : TypeId} (ht : P.underlying t = some (.map kt vt)) (K : KeyOk P kt LK) {i : TypeInfo} (hi : P.info? vt = some i) (hz : i.zero = some (LV.enc LV.zero)) {r : Option Nat} {x : LK.α} {ok : Bool} {w : World}
    {l : List (Ent LK.α LV.α)} {c : Nat} (hm : mAt LK LV w r l c) :
    (Instr.lookup t (.map r) (LK.enc x) ok).run P w = .ok (if ok then .tuple #[LV.enc ((mfind LK.keq x l).getD LV.zero), .bool (mfind LK.keq x l).isSome] else LV.enc ((mfind LK.keq x l).getD LV.zero)) w := by
  have hz' := run_zeroValue' (P := P) hi hz w
  unfold Instr.lookup
  simp only [Sem.run_bind, run_underlying ht, Result.andThen_ok]
  cases r with
  | none =>
    have hm : l = [] := hm
    subst hm
    have hf := run_find (LV := LV) K x [] w
    simp only [List.map_nil] at hf
    simp only [Sem.run_pure, Result.andThen_ok, Sem.run_bind, K.chk, hf, place, hz', mfind, List.find?_nil]
    cases ok <;> simp
  | some b =>
    have hb : w.heap[b]? = some (.map (l.map (entM LK LV)).toArray c) := hm
    simp only [Sem.run_pure, Result.andThen_ok, Sem.run_bind, K.chk, run_getMap hb, run_find K]
    rcases place_find (LV := LV) LK.keq x l 0 with ⟨h1, h2, _⟩ | ⟨j, e, h1, _, h2, _⟩
    · simp only [h1, h2, Sem.run_bind, hz', Result.andThen_ok, Sem.run_pure]; cases ok <;> simp
    · simp only [h1, h2, Sem.run_bind, Result.andThen_ok, Sem.run_pure]; cases ok <;> simp

theorem modify_set (l : List (Ent LK.α LV.α)) (j : Nat) (e e' : Ent LK.α LV.α) (f : MapEntry → MapEntry) (hj : l[j]? = some e) (hf : f (entM LK LV e) = entM LK LV e') :
    ((l.map (entM LK LV)).toArray.modify j f) = ((l.set j e').map (entM LK LV)).toArray := by
  obtain ⟨hlt, hje⟩ := List.getElem?_eq_some_iff.1 hj
  apply Array.ext
  · simp
  · intro i h1 h2
    simp only [Array.getElem_modify, List.getElem_toArray, List.getElem_map, List.getElem_set]
    split
    · subst_vars; simp [hf]
    · rfl

theorem eraseIdx_map' {α β : Type} (f : α → β) : ∀ (l : List α) (j : Nat), (l.map f).eraseIdx j = (l.eraseIdx j).map f
  | [], _ => rfl
  | _ :: _, 0 => rfl
  | a :: r, j + 1 => by simp [eraseIdx_map' f r j]

theorem run_update {t kt vt : TypeId} (ht : P.underlying t = some (.map kt vt)) (K : KeyOk P kt LK) {b : Nat} {x : LK.α} {v : LV.α} {w : World} {l : List (Ent LK.α LV.α)} {c : Nat} (hm : mapIs LK LV w b l c) :
    (Instr.mapUpdate t (.map (some b)) (LK.enc x) (LV.enc v)).run P w = .ok () (w.putObj b (mapObj LK LV (mset LK.keq x v c l) (mclk LK.keq x c l))) := by
  have hb : w.heap[b]? = some (.map (l.map (entM LK LV)).toArray c) := hm
  unfold Instr.mapUpdate
  simp only [Sem.run_bind, run_underlying ht, Result.andThen_ok, run_getMap hb, K.chk, run_find K]
  rcases place_find (LV := LV) LK.keq x l 0 with ⟨h1, _, h3, h4, _⟩ | ⟨j, e, h1, h2, _, h4, h5, h6, _⟩
  · simp only [h1, run_setMap _ hb, mclk, h3, h4, mapObj]
    simp [entM]
  · simp only [h1, Nat.zero_add]
    have hke := (K.eqv _ _).1 h4
    obtain ⟨k', v', b'⟩ := e
    simp only at hke; subst hke
    have hkey : (((l.map (entM LK LV)).toArray[j]?).map (·.key)).getD (LK.enc x) = LK.enc x := by simp [h2, entM]
    simp only [hkey, Instr.keyThatStays, K.bits, if_true, Sem.run_bind, Sem.run_pure, Result.andThen_ok, run_setMap _ hb, mclk, h5, h6, mapObj]
    rw [modify_set l j _ ⟨x, v, b'⟩ _ h2 (by simp [entM])]

theorem run_delete {t kt vt t2 ty : TypeId} (ht : P.underlying t = some (.map kt vt)) (K : KeyOk P kt LK) {b : Nat} {x : LK.α} {w : World} {l : List (Ent LK.α LV.α)} {c : Nat} (hm : mapIs LK LV w b l c) :
    (Builtin.delete_ #[t, t2] ty #[.map (some b), LK.enc x]).run P w = .ok (.tuple #[]) (w.putObj b (mapObj LK LV (mdel LK.keq x l) c)) := by
  have hb : w.heap[b]? = some (.map (l.map (entM LK LV)).toArray c) := hm
  unfold Builtin.delete_
  simp only [List.getElem?_toArray, List.getElem?_cons_zero, List.getElem?_cons_succ, Sem.run_bind, run_underlying ht, Result.andThen_ok, run_getMap hb, K.chk, run_find K]
  rcases place_find (LV := LV) LK.keq x l 0 with ⟨h1, _, _, _, h5, _⟩ | ⟨j, e, h1, h2, _, _, _, _, h7, _⟩
  · simp [h1, run_setMap _ hb, h5, mapObj]
  · simp [h1, run_setMap _ hb, h7, mapObj, Array.eraseIdxIfInBounds]
    obtain ⟨hlt, _⟩ := List.getElem?_eq_some_iff.1 h2
    simp [hlt, eraseIdx_map']

theorem run_entry {t kt vt : TypeId} (ht : P.underlying t = some (.map kt vt)) (K : KeyOk P kt LK) {i : TypeInfo} (hi : P.info? vt = some i) (hz : i.zero = some (LV.enc LV.zero)) {b : Nat} {x : LK.α} {w : World} {l : List (Ent LK.α LV.α)} {c : Nat} (hm : mapIs LK LV w b l c) :
    (Instr.mapEntry t (.map (some b)) (LK.enc x)).run P w = .ok (.tuple #[LV.enc ((mfind LK.keq x l).getD LV.zero), .int .i64 (mborn LK.keq x c l)])
      (w.putObj b (mapObj LK LV (mset LK.keq x ((mfind LK.keq x l).getD LV.zero) c l) (mclk LK.keq x c l))) := by
  have hb : w.heap[b]? = some (.map (l.map (entM LK LV)).toArray c) := hm
  unfold Instr.mapEntry
  simp only [Sem.run_bind, run_underlying ht, Result.andThen_ok, run_getMap hb, K.chk, run_find K]
  rcases place_find (LV := LV) LK.keq x l 0 with ⟨h1, h2, h3, h4, _, h6⟩ | ⟨j, e, h1, h2, h3, h4, h5, h6, _, h8⟩
  · simp only [h1, Sem.run_bind, run_zeroValue' hi hz, Result.andThen_ok, run_setMap _ hb, mclk, h3, h4, h2, h6, mapObj, Sem.run_pure, goInt]
    simp [entM]
  · simp only [h1, Nat.zero_add]
    have hke := (K.eqv _ _).1 h4
    obtain ⟨k', v', b'⟩ := e
    simp only at hke; subst hke
    have hkey : (((l.map (entM LK LV)).toArray[j]?).map (·.key)).getD (LK.enc x) = LK.enc x := by simp [h2, entM]
    have hborn : ((((l.map (entM LK LV)).toArray[j]?).map (·.born)).getD 0 : Nat) = b' := by simp [h2, entM]
    have hborn2 : ((((l.map (entM LK LV)).toArray[j]?).map (fun e => (e.born : Int))).getD 0 : Int) = (b' : Int) := by simp [h2, entM]
    simp only [hkey, hborn, hborn2, Instr.keyThatStays, K.bits, if_true, Sem.run_bind, Sem.run_pure, Result.andThen_ok, run_setMap _ hb, mclk, h5, h6, h3, h8, mapObj, goInt, Option.getD_some]
    rw [modify_set l j _ ⟨x, v', b'⟩ _ h2 (by simp [entM])]

theorem stamp_set (s : Nat) (v : LV.α) : ∀ (l : List (Ent LK.α LV.α)), (∃ e ∈ l, e.b = s) → ∃ i e, (l.map (entM LK LV)).toArray.findIdx? (fun e => (e.born : Int) == (s : Int)) = some i ∧ l[i]? = some e ∧ mstamp s v l = l.set i ⟨e.k, v, e.b⟩
  | [], h => by obtain ⟨e, he, _⟩ := h; simp at he
  | e :: r, h => by
    simp only [List.findIdx?_toArray, List.map_cons, List.findIdx?_cons]
    by_cases hb : e.b = s
    · exact ⟨0, e, by simp [entM, hb], rfl, by simp [mstamp, hb]⟩
    · obtain ⟨e', he', hs⟩ := h
      have : ∃ e ∈ r, e.b = s := by
        rcases List.mem_cons.1 he' with rfl | h'
        · exact absurd hs hb
        · exact ⟨e', h', hs⟩
      obtain ⟨i, e2, h1, h2, h3⟩ := stamp_set s v r this
      simp only [List.findIdx?_toArray] at h1
      refine ⟨i + 1, e2, ?_, by simpa using h2, by simp [mstamp, hb, h3]⟩
      have hne : ((entM LK LV e).born : Int) ≠ s := by simp [entM]; exact fun h => hb (by exact_mod_cast h)
      simp [hne, h1]

theorem run_esto {t : TypeId} {b : Nat} {s : Int} {v : LV.α} {w : World} {l : List (Ent LK.α LV.α)} {c : Nat} {k : IntKind} (hm : mapIs LK LV w b l c) (hs : ∃ e ∈ l, (e.b : Int) = s) :
    (Instr.entryStore t (.map (some b)) (.int k s) (LV.enc v)).run P w = .ok () (w.putObj b (mapObj LK LV (mstamp s.toNat v l) c)) := by
  have hb : w.heap[b]? = some (.map (l.map (entM LK LV)).toArray c) := hm
  obtain ⟨e0, he0, hs0⟩ := hs
  subst hs0
  obtain ⟨i, e, h1, h2, h3⟩ := stamp_set (LK := LK) e0.b v l ⟨e0, he0, rfl⟩
  unfold Instr.entryStore
  simp only [Sem.run_bind, run_getMap hb, Result.andThen_ok, asInt, asIntOf, Sem.run_pure, h1, run_setMap _ hb, Int.toNat_natCast, h3, mapObj]
  rw [modify_set l i e ⟨e.k, v, e.b⟩ _ h2 (by simp [entM])]

end

theorem run_range {t kt vt : TypeId} (ht : P.underlying t = some (.map kt vt)) {r : Option Nat} {K : Nat → World → Prop} {w : World} (h : mrng r K w) : ∃ b w', (Instr.range t (.map r)).run P w = .ok (.pointer (some ⟨b, 0, none⟩)) w' ∧ K b w' := by
  unfold Instr.range
  rcases h with ⟨rfl, h⟩ | ⟨b, es, c, rfl, hb, h⟩
  · exact ⟨_, _, by simp only [Sem.run_bind, run_underlying ht, Result.andThen_ok, Sem.run_pure, run_newObj_alloc], h⟩
  · exact ⟨_, _, by simp only [Sem.run_bind, run_underlying ht, Result.andThen_ok, Sem.run_pure, run_getMap hb, run_newObj_alloc], h⟩

theorem run_mlen {t ty kt vt : TypeId} (ht : P.underlying t = some (.map kt vt)) {r : Option Nat} {K : Int → World → Prop} {w : World} (h : mlen r K w) : ∃ n, (Builtin.len_ #[t] ty #[.map r]).run P w = .ok (.int .i64 n) w ∧ K n w := by
  unfold Builtin.len_
  rcases h with ⟨rfl, h⟩ | ⟨b, es, c, rfl, hb, h⟩
  · exact ⟨0, by simp [Sem.run_bind, run_underlying ht, goInt], h⟩
  · exact ⟨_, by simp [Sem.run_bind, run_underlying ht, run_getMap hb, goInt], h⟩

theorem run_next {ty : TypeId} {r : Nat} {sp : Option Nat} {K : Value → World → Prop} {w : World} (h : mnext r K w) : ∃ v w', (Instr.next (.pointer (some ⟨r, 0, sp⟩)) false ty).run P w = .ok v w' ∧ K v w' := by
  unfold Instr.next
  rcases h with ⟨a, b, d, hr, h⟩ | ⟨m, es, c, seen, hr, hm, hlt, h⟩
  · exact ⟨_, _, by simp only [Sem.run_bind, run_getIter hr, Result.andThen_ok, Sem.run_pure], h⟩
  · simp only [Sem.run_bind, run_getIter hr, Result.andThen_ok, run_getMap hm]
    have hno : (!seen.isEmpty && !es.isEmpty && es.all (·.born ≥ c)) = false := by
      cases he : es.isEmpty with
      | true => simp
      | false =>
        have : ∃ e, e ∈ es := by
          obtain ⟨l⟩ := es
          cases l with
          | nil => simp at he
          | cons a r => exact ⟨a, by simp⟩
        obtain ⟨e, he'⟩ := this
        have h1 := hlt e he'
        have : es.all (·.born ≥ c) = false := by
          rw [Array.all_eq_false']
          exact ⟨e, he', by simpa using h1⟩
        simp [this]
    simp only [hno, Bool.false_eq_true, if_false]
    have hnew : (es.filter (fun e => !seen.contains e.born)).filter (fun e => decide (e.born ≥ c)) = #[] := by
      rw [Array.filter_eq_empty_iff]
      intro e he
      have := hlt e (Array.mem_filter.1 he).1
      simp; omega
    have hold : (es.filter (fun e => !seen.contains e.born)).filter (fun e => decide (e.born < c)) = es.filter (fun e => !seen.contains e.born) := by
      rw [Array.filter_eq_self]
      intro e he
      have := hlt e (Array.mem_filter.1 he).1
      simpa using this
    simp only [Sem.run_pure, Result.andThen_ok, Sem.run_bind, hnew, hold, Array.append_empty]
    generalize hL : es.filter (fun e => !seen.contains e.born) = L
    have hw1 : ∀ q : Question, ∃ n w1, (choose q).run P w = .ok n w1 ∧ (w1 = w ∨ w1 = w.drew) ∧ (n = 0 ∨ ∃ x, n = q.cut x) := by
      intro q
      rw [run_choose_drew]
      split
      · exact ⟨0, w, rfl, .inl rfl, .inl rfl⟩
      · exact ⟨_, w.drew, rfl, .inr rfl, .inr ⟨_, rfl⟩⟩
    cases hE : L.isEmpty with
    | true =>
      have hLe : L = #[] := by simpa using hE
      subst hLe
      simp only [if_true, Array.map_empty, Array.append_empty, List.size_toArray, List.length_singleton, Array.isEmpty_empty]
      obtain ⟨n, w1, h1, h2, h3⟩ := hw1 (.mapNext 1)
      have hn : n = 0 := by rcases h3 with h | ⟨x, h⟩; exact h; simpa [Question.cut, Nat.mod_one] using h
      subst hn
      refine ⟨_, w1, ?_, (h w1 h2).1 ?_⟩
      · show ((choose (Question.mapNext 1)).run P w).andThen _ = _
        rw [h1]; rfl
      · intro e he
        have := (Array.filter_eq_empty_iff.1 hL) e he
        simpa using this
    | false =>
      have hne : 0 < L.size := by
        rcases Nat.eq_zero_or_pos L.size with h0 | h0
        · simp [Array.eq_empty_of_size_eq_zero h0] at hE
        · exact h0
      simp only [Bool.false_eq_true, if_false, Array.size_append, Array.size_map, List.size_toArray, List.length_nil, Nat.zero_add]
      obtain ⟨n, w1, h1, h2, h3⟩ := hw1 (.mapNext L.size)
      have hn : n < L.size := by rcases h3 with h | ⟨x, h⟩; omega; rw [h]; exact Nat.mod_lt _ hne
      have hget : ((#[] : Array (Option MapEntry)) ++ L.map some)[n]? = some (some L[n]) := by simp [hn]
      have hmem : L[n] ∈ es ∧ L[n].born ∉ seen := by
        have : L[n] ∈ es.filter (fun e => !seen.contains e.born) := by rw [hL]; exact Array.getElem_mem hn
        have := Array.mem_filter.1 this
        exact ⟨this.1, by simpa using this.2⟩
      have hr1 : w1.heap[r]? = some (.mapIter (some m) c seen c) := by rcases h2 with rfl | rfl; exact hr; exact hr
      refine ⟨_, _, ?_, (h w1 h2).2 L[n] hmem.1 hmem.2⟩
      simp only [h1, Result.andThen_ok]
      simp only [hget, Sem.run_bind, run_setIter _ hr1, Result.andThen_ok, Sem.run_pure]

theorem run_mentry {r : Nat} {sp : Option Nat} {K : Value → Value → World → Prop} {w : World} (h : mentry r K w) : ∃ k v, (Instr.entry (.pointer (some ⟨r, 0, sp⟩))).run P w = .ok (.tuple #[k, v]) w ∧ K k v w := by
  obtain ⟨m, es, c, seen, e, hr, hm, hs, hf, h⟩ := h
  unfold Instr.entry
  refine ⟨e.key, e.val, ?_, h⟩
  simp only [Sem.run_bind, run_getIter hr, Result.andThen_ok, hs, run_getMap hm, Sem.run_pure, hf]
  simp

end Go.Dk

namespace Go.Dk
open Go
set_option linter.unusedSimpArgs false
set_option linter.unusedVariables false

variable {P : Program}

theorem getElem_reps (z : List Value) (hz : z.length ≠ 0) : ∀ (n i : Nat), i < n * z.length → (reps n z)[i]? = z[i % z.length]?
  | 0, i, h => by simp at h
  | n + 1, i, h => by
    have e : reps (n + 1) z = z ++ reps n z := by simp [reps, List.replicate_succ]
    rw [e]
    by_cases hi : i < z.length
    · rw [List.getElem?_append_left hi, Nat.mod_eq_of_lt hi]
    · have h' : i < n * z.length + z.length := by rw [Nat.add_mul, Nat.one_mul] at h; exact h
      rw [List.getElem?_append_right (by omega), getElem_reps z hz n (i - z.length) (by omega), show i % z.length = (i - z.length) % z.length from Nat.mod_eq_sub_mod (by omega)]

theorem length_reps (n : Nat) (z : List Value) : (reps n z).length = n * z.length := by
  simp [reps]

theorem range_reps (n : Nat) (z : Array Value) : (Array.range (n * z.size)).map (fun i => z[i % z.size]!) = (reps n z.toList).toArray := by
  by_cases hz : z.size = 0
  · have : z = #[] := by simpa using hz
    subst this
    simp [reps]
  · apply Array.ext
    · simp [length_reps]
    · intro i h1 h2
      simp only [Array.size_map, Array.size_range] at h1
      have := getElem_reps z.toList (by simpa using hz) n i (by simpa using h1)
      simp only [Array.getElem_map, Array.getElem_range, List.getElem_toArray]
      have hlt : i % z.size < z.size := Nat.mod_lt _ (by omega)
      have h3 : (reps n z.toList)[i]? = some (reps n z.toList)[i] := List.getElem?_eq_getElem (by simpa using h2)
      rw [h3] at this
      simp [hlt] at this ⊢
      exact this.symm

theorem run_firstCells {w : World} {s : Sl} {sz : Nat} {cs : List Value} (h : cellsAt w s sz cs) : (Builtin.firstCells sz s.len (.slice s.a s.len s.cap)).run P w = .ok cs.toArray w := by
  obtain ⟨hl, ⟨rfl, ha⟩ | ⟨p, ha, hp⟩⟩ := h
  · simp [Builtin.firstCells, ha]
  · simp only [Builtin.firstCells, ha, ← hl, run_loadCells hp]

theorem cellsAt_oneCell : True := trivial

theorem run_append {C : Cfg P} {t t2 ty e e2 : TypeId} {sz by_ : Nat} {z : List Value} {s x : Sl} {K : Sl → World → Prop} {w : World}
    (ht : C.tb t = .slice e) (ht2 : C.tb t2 = .slice e2) (hsz : C.sz e = some sz) (hby : C.by_ e = some by_) (hz : C.zl e = some z) (hb0 : by_ ≠ 0)
    (h : apnd e sz by_ z s x K w) :
    ∃ r w', (Builtin.append_ #[t, t2] ty #[.slice s.a s.len s.cap, .slice x.a x.len x.cap]).run P w = .ok (.slice r.a r.len r.cap) w' ∧ K r w' := by
  have hu : P.underlying t = some (.slice e) := by have := C.ok_tb t; rw [ht] at this; exact this
  have hu2 : P.underlying t2 = some (.slice e2) := by have := C.ok_tb t2; rw [ht2] at this; exact this
  obtain ⟨i, hi, his⟩ := C.ok_sz e sz hsz
  obtain ⟨i', hi', hib⟩ := C.ok_by e by_ hby
  obtain ⟨i'', v, hi'', hzv, hzc, hzs⟩ := C.ok_zl e z hz
  rw [hi] at hi' hi''; cases hi'; cases hi''
  obtain ⟨new, hnew, hon, h1, h2⟩ := h
  have hrn := run_firstCells (P := P) hnew
  unfold Builtin.append_
  simp only [List.getElem?_toArray, List.getElem?_cons_zero, List.getElem?_cons_succ, Sem.run_bind, run_underlying hu, run_underlying hu2, Result.andThen_ok, run_sizeOf' hi, Sem.run_pure, Bool.false_eq_true, if_false, Builtin.lenOf, his]
  by_cases hle : s.len + x.len ≤ s.cap
  · rw [if_pos hle]
    simp only [Bool.not_false, if_true, Sem.run_bind, hrn, Result.andThen_ok]
    rcases h1 hle with ⟨rfl, hk⟩ | ⟨a, ha, l, e', hbk, hsp, hln, hk⟩
    · cases hsa : s.a with
      | none => exact ⟨_, _, rfl, hsa ▸ hk⟩
      | some a => exact ⟨⟨s.a, s.len + x.len, s.cap⟩, w, by simp [storeCells, hsa], hk⟩
    · refine ⟨⟨s.a, s.len + x.len, s.cap⟩, _, ?_, hk⟩
      rw [ha]
      simp only [Sem.run_bind]
      generalize hp : a.add (s.len * sz) = p at *
      obtain ⟨b, off, sp⟩ := p
      simp only at hsp hbk hln; subst hsp
      rw [run_storeCells _ w b off 0 l hbk (by simpa using hln) hon]
      simp
  · rw [if_neg hle]
    obtain ⟨old, hold, hcap, hk⟩ := h2 (by omega)
    have hro := run_firstCells (P := P) hold
    simp only [run_typeInfo' hi, Sem.run_bind, Result.andThen_ok, hib, hb0, Bool.false_eq_true, or_self, and_false, if_false, Bool.not_false, if_true]
    rw [if_neg (by omega)]
    simp only [Sem.run_bind, run_choose_drew, Question.forced, Bool.false_eq_true, if_false, Result.andThen_ok, Question.cut]
    generalize hc : s.len + x.len + w.tape w.drawn (.appendCap (s.len + x.len) s.cap e) % (2 ^ 63 - (s.len + x.len)) = c
    have hlt63 : s.len + x.len < 2 ^ 63 := by
      have : s.len + x.len ≤ Builtin.nextslicecap (s.len + x.len) s.cap := by
        unfold Builtin.nextslicecap
        have grow : ∀ n r c, n ≤ Builtin.growBy n r c ∨ c ≤ Builtin.growBy n r c := fun n r => by
          induction r with
          | zero => intro c; right; exact Nat.le_refl _
          | succ r ih =>
            intro c
            unfold Builtin.growBy
            split
            · right; exact Nat.le_refl _
            · rcases ih (c + (c + 768) / 4) with h | h
              · exact .inl h
              · exact .inr (by omega)
        have grow4 : ∀ n c, n ≤ 2 * c → 256 ≤ c → n ≤ Builtin.growBy n 4 c := by
          intro n c h1 h2
          unfold Builtin.growBy
          split
          · omega
          · unfold Builtin.growBy
            split
            · omega
            · unfold Builtin.growBy
              split
              · omega
              · unfold Builtin.growBy
                split
                · omega
                · unfold Builtin.growBy; omega
        split
        · omega
        · split
          · omega
          · exact grow4 _ _ (by omega) (by omega)
      have : s.len + x.len ≤ 2 ^ 48 := by
        have h3 : Builtin.nextslicecap (s.len + x.len) s.cap * 1 ≤ Builtin.nextslicecap (s.len + x.len) s.cap * by_ := Nat.mul_le_mul_left _ (by omega)
        omega
      omega
    have hge : s.len + x.len ≤ c := by rw [← hc]; omega
    have hlt : c < 2 ^ 63 := by
      rw [← hc]
      have := Nat.mod_lt (w.tape w.drawn (.appendCap (s.len + x.len) s.cap e)) (show 0 < 2 ^ 63 - (s.len + x.len) by omega)
      omega
    have hro' : (Builtin.firstCells sz s.len (.slice s.a s.len s.cap)).run P w.drew = .ok old.toArray w.drew := by
      have : cellsAt w.drew s sz old := hold
      exact run_firstCells this
    have hrn' : (Builtin.firstCells sz x.len (.slice x.a x.len x.cap)).run P w.drew = .ok new.toArray w.drew := by
      have : cellsAt w.drew x sz new := hnew
      exact run_firstCells this
    refine ⟨_, _, ?_, hk c hge hlt⟩
    simp only [run_askRoom, run_typeInfo' hi, Result.andThen_ok, hro', hrn', run_zeroValue' hi hzv, Sem.run_bind, newRow, run_newObj_alloc, Sem.run_pure, Builtin.zeroCells, hzc]
    rw [range_reps]
    simp

theorem run_make {C : Cfg P} {t e : TypeId} {by_ : Nat} {z : List Value} {l c : Int} {k k' : IntKind} {K : Sl → World → Prop} {w : World}
    (ht : C.tb t = .slice e) (hby : C.by_ e = some by_) (hz : C.zl e = some z) (h : mks e by_ z l c K w) :
    ∃ r w', (Instr.makeSlice t (.int k l) (.int k' c)).run P w = .ok (.slice r.a r.len r.cap) w' ∧ K r w' := by
  have hu : P.underlying t = some (.slice e) := by have := C.ok_tb t; rw [ht] at this; exact this
  obtain ⟨i, hi, hib⟩ := C.ok_by e by_ hby
  obtain ⟨i'', v, hi'', hzv, hzc, hzs⟩ := C.ok_zl e z hz
  rw [hi] at hi''; cases hi''
  obtain ⟨h0, h1, h2, h3, hk⟩ := h
  have wr : ∀ n : Int, 0 ≤ n → n < 2 ^ 62 → IntKind.i64.wrap n = n := by
    intro n a b
    unfold IntKind.wrap IntKind.signed IntKind.bits
    simp only [Bool.true_and, decide_eq_true_eq]
    have : n % 2 ^ 64 = n := Int.emod_eq_of_lt a (by omega)
    rw [this, if_neg (by omega)]
  unfold Instr.makeSlice
  simp only [Sem.run_bind, run_underlying hu, Result.andThen_ok, asInt, asIntOf, Sem.run_pure, run_typeInfo' hi, hib, wr l (by omega) (by omega), wr c (by omega) (by omega)]
  have hg : (decide (c < 0) || decide ((by_ : Int) * c > 2 ^ 48) || decide (l < 0) || decide (l > c)) = false := by
    simp; omega
  simp only [hg, Bool.false_eq_true, if_false, Sem.run_bind, run_askRoom, Result.andThen_ok, run_sizeOf' hi]
  refine ⟨_, _, ?_, hk⟩
  by_cases hn : c.toNat * i.size = 0
  · rw [if_pos hn]
    have : reps c.toNat z = [] := by
      apply List.eq_nil_of_length_eq_zero; rw [length_reps, show z.length = i.size by rw [← hzs, hzc]; simp]; exact hn
    simp only [Sem.run_pure, Result.andThen_ok, newRow, Sem.run_bind, run_newObj_alloc, hn, this]
    simp [show Array.range 0 = #[] from rfl]
  · rw [if_neg hn]
    have hsz : i.size = z.toArray.size := by rw [← hzs, hzc]
    simp only [Sem.run_bind, run_zeroValue' hi hzv, Result.andThen_ok, Sem.run_pure, newRow, run_newObj_alloc, hzc]
    rw [hsz, range_reps]

end Go.Dk
