/- Formulas for operations. -/
import Derived.Test.YtdmncelglohmiaaDkA
namespace Go.Dk
open Go

inductive TB
  | none | bool | int (k : IntKind) | str | ptr (e : TypeId) | slice (e : TypeId) | map (k v : TypeId)
  | struct (fs : List (Nat × TypeId)) | array (n : Nat) (e : TypeId) | tup (ts : List TypeId)

def TbOk (P : Program) (t : TypeId) : TB → Prop
  | .none | .tup _ => True
  | .bool => P.underlying t = some .bool
  | .int k => P.underlying t = some (.int k)
  | .str => P.underlying t = some .string
  | .ptr e => P.underlying t = some (.pointer e)
  | .slice e => P.underlying t = some (.slice e)
  | .map k v => P.underlying t = some (.map k v)
  | .struct fs => ∃ f : Array Field, P.underlying t = some (.struct f) ∧ f.toList.map (fun x => (x.offset, x.type)) = fs
  | .array n e => P.underlying t = some (.array n e)

def tbB (P : Program) (t : TypeId) : TB → Bool
  | .none | .tup _ => true
  | .bool => match P.underlying t with | some .bool => true | _ => false
  | .int k => match P.underlying t with | some (.int k') => decide (k' = k) | _ => false
  | .str => match P.underlying t with | some .string => true | _ => false
  | .ptr e => match P.underlying t with | some (.pointer e') => e' == e | _ => false
  | .slice e => match P.underlying t with | some (.slice e') => e' == e | _ => false
  | .map k v => match P.underlying t with | some (.map k' v') => k' == k && v' == v | _ => false
  | .struct fs => match P.underlying t with | some (.struct f) => f.toList.map (fun x => (x.offset, x.type)) == fs | _ => false
  | .array n e => match P.underlying t with | some (.array n' e') => n' == n && e' == e | _ => false

theorem tbB_ok {P : Program} {t : TypeId} {b : TB} (h : tbB P t b = true) : TbOk P t b := by
  cases b <;> simp only [tbB, TbOk] at h ⊢ <;> split at h <;> simp_all

def aggD : TypeDesc → Bool
  | .struct _ | .array _ _ => true
  | _ => false

def LtOk (P : Program) (t : TypeId) (L : LTy) : Prop := ∃ i d, P.info? t = some i ∧ i.size = L.n ∧ P.underlying t = some d ∧ aggD d = L.agg

def ltB (P : Program) (t : TypeId) (L : LTy) : Bool :=
  match P.info? t, P.underlying t with | some i, some d => i.size == L.n && aggD d == L.agg | _, _ => false
theorem ltB_ok {P : Program} {t : TypeId} {L : LTy} (h : ltB P t L = true) : LtOk P t L := by
  unfold ltB at h; split at h
  · rename_i i d h1 h2; simp at h; exact ⟨i, d, h1, h.1, h2, h.2⟩
  · cases h

/-- plain zero values that are the same -/
def zB : Value → Value → Bool
  | .int k n, .int k' n' => decide (k = k') && n == n'
  | .bool a, .bool b => a == b
  | .string a, .string b => a.data == b.data
  | .pointer none, .pointer none => true
  | .slice none a b, .slice none c d => a == c && b == d
  | .map none, .map none => true
  | .nilFunc, .nilFunc => true
  | .nilIface, .nilIface => true
  | _, _ => false
theorem zB_eq {a b : Value} (h : zB a b = true) : a = b := by
  unfold zB at h; split at h <;> simp_all
  rename_i a b; cases a; cases b; simp_all

def zlB : List Value → List Value → Bool
  | [], [] => true
  | a :: r, b :: s => zB a b && zlB r s
  | _, _ => false
theorem zlB_eq : ∀ {a b : List Value}, zlB a b = true → a = b
  | [], [], _ => rfl
  | a :: r, b :: s, h => by
    simp [zlB] at h; rw [zB_eq h.1, zlB_eq h.2]
  | [], _ :: _, h => by simp [zlB] at h
  | _ :: _, [], h => by simp [zlB] at h

/-- the zero value's cells -/
def zc (P : Program) (t : TypeId) : Array Value := match (P.info? t).bind (·.zero) with | some v => v.cells | none => #[]

def ZlOk (P : Program) (t : TypeId) (l : List Value) : Prop := ∃ i v, P.info? t = some i ∧ i.zero = some v ∧ v.cells = l.toArray ∧ (v.cells.size = i.size)
def zlkB (P : Program) (t : TypeId) (l : List Value) : Bool :=
  match P.info? t with | some i => (match i.zero with | some v => zlB (cellsL v) l && l.length == i.size | none => false) | none => false
theorem zlkB_ok {P : Program} {t : TypeId} {l : List Value} (h : zlkB P t l = true) : ZlOk P t l := by
  unfold zlkB at h
  split at h
  · rename_i i hi
    split at h
    · rename_i v hv
      simp at h
      refine ⟨i, v, hi, hv, ?_, ?_⟩
      · rw [cellsL_eq, zlB_eq h.1]
      · rw [cellsL_eq, zlB_eq h.1]; simpa using h.2
    · cases h
  · cases h

/-! ### maps -/
structure Ent (α β : Type) where
  k : α
  v : β
  b : Nat

def entM (LK LV : LTy) (e : Ent LK.α LV.α) : MapEntry := ⟨LK.enc e.k, LV.enc e.v, e.b⟩
def mapObj (LK LV : LTy) (l : List (Ent LK.α LV.α)) (c : Nat) : Obj := .map (l.map (entM LK LV)).toArray c
def mapIs (LK LV : LTy) (w : World) (r : Nat) (l : List (Ent LK.α LV.α)) (c : Nat) : Prop := w.heap[r]? = some (mapObj LK LV l c)

section
variable {α β : Type} (keq : α → α → Bool)
def mfind (x : α) (l : List (Ent α β)) : Option β := (l.find? fun e => keq x e.k).map (·.v)
def mset (x : α) (v : β) (c : Nat) : List (Ent α β) → List (Ent α β)
  | [] => [⟨x, v, c⟩]
  | e :: r => if keq x e.k then ⟨x, v, e.b⟩ :: r else e :: mset x v c r
def mclk (x : α) (c : Nat) (l : List (Ent α β)) : Nat := if l.any fun e => keq x e.k then c else c + 1
def mdel (x : α) : List (Ent α β) → List (Ent α β)
  | [] => []
  | e :: r => if keq x e.k then r else e :: mdel x r
def mborn (x : α) (c : Nat) (l : List (Ent α β)) : Nat := match l.find? fun e => keq x e.k with | some e => e.b | none => c
def mstamp (s : Nat) (v : β) : List (Ent α β) → List (Ent α β)
  | [] => []
  | e :: r => if e.b = s then ⟨e.k, v, e.b⟩ :: r else e :: mstamp s v r
end

/-- what a map that may be nil holds -/
def mAt (LK LV : LTy) (w : World) (r : Option Nat) (l : List (Ent LK.α LV.α)) (c : Nat) : Prop := match r with | none => l = [] | some b => mapIs LK LV w b l c

def mget (LK LV : LTy) (r : Option Nat) (x : LK.α) (K : LV.α → Bool → World → Prop) (w : World) : Prop :=
  ∃ l c, mAt LK LV w r l c ∧ K ((mfind LK.keq x l).getD LV.zero) (mfind LK.keq x l).isSome w
def mput (LK LV : LTy) (r : Option Nat) (x : LK.α) (v : LV.α) (K : World → Prop) (w : World) : Prop :=
  ∃ b l c, r = some b ∧ mapIs LK LV w b l c ∧ K (w.putObj b (mapObj LK LV (mset LK.keq x v c l) (mclk LK.keq x c l)))
def mdl (LK LV : LTy) (r : Option Nat) (x : LK.α) (K : World → Prop) (w : World) : Prop :=
  (r = none ∧ K w) ∨ ∃ b l c, r = some b ∧ mapIs LK LV w b l c ∧ K (w.putObj b (mapObj LK LV (mdel LK.keq x l) c))
def ment (LK LV : LTy) (r : Option Nat) (x : LK.α) (K : LV.α → Int → World → Prop) (w : World) : Prop :=
  ∃ b l c, r = some b ∧ mapIs LK LV w b l c ∧
    K ((mfind LK.keq x l).getD LV.zero) (mborn LK.keq x c l) (w.putObj b (mapObj LK LV (mset LK.keq x ((mfind LK.keq x l).getD LV.zero) c l) (mclk LK.keq x c l)))
def mesto (LK LV : LTy) (r : Option Nat) (s : Int) (v : LV.α) (K : World → Prop) (w : World) : Prop :=
  ∃ b l c, r = some b ∧ mapIs LK LV w b l c ∧ (∃ e ∈ l, (e.b : Int) = s) ∧ K (w.putObj b (mapObj LK LV (mstamp s.toNat v l) c))
def mlen (r : Option Nat) (K : Int → World → Prop) (w : World) : Prop :=
  (r = none ∧ K 0 w) ∨ ∃ b es c, r = some b ∧ w.heap[b]? = some (.map es c) ∧ K (es.size : Int) w
def mrng (r : Option Nat) (K : Nat → World → Prop) (w : World) : Prop :=
  (r = none ∧ newB (.mapIter none 0 #[] 0) K w) ∨ ∃ b es c, r = some b ∧ w.heap[b]? = some (.map es c) ∧ newB (.mapIter (some b) c #[] c) K w
/-- the next one; whichever that is -/
def mnext (r : Nat) (K : Value → World → Prop) (w : World) : Prop :=
  (∃ a b d, w.heap[r]? = some (.mapIter none a b d) ∧ K (.tuple #[.bool false]) w) ∨
  ∃ m es c seen, w.heap[r]? = some (.mapIter (some m) c seen c) ∧ w.heap[m]? = some (.map es c) ∧ (∀ e ∈ es, e.born < c) ∧
    ∀ w1, (w1 = w ∨ w1 = w.drew) →
      ((∀ e ∈ es, e.born ∈ seen) → K (.tuple #[.bool false]) w1) ∧
      ∀ e ∈ es, e.born ∉ seen → K (.tuple #[.bool true, e.key, e.val]) (w1.putObj r (.mapIter (some m) c (seen.push e.born) c))
def mentry (r : Nat) (K : Value → Value → World → Prop) (w : World) : Prop :=
  ∃ m es c seen e, w.heap[r]? = some (.mapIter (some m) c seen c) ∧ w.heap[m]? = some (.map es c) ∧ seen.back? = some e.born ∧ es.find? (fun x => x.born == e.born) = some e ∧ K e.key e.val w

/-- what a type must meet whose values are keys -/
structure KeyOk (P : Program) (t : TypeId) (L : LTy) : Prop where
  eqv : ∀ x y, L.keq x y = true ↔ x = y
  chk : ∀ e x w, (Instr.checkKey e 10000 t (L.enc x)).run P w = .ok () w
  find : ∀ x (es : List MapEntry) (xs : List L.α) w, es.map (·.key) = xs.map L.enc →
    (Instr.findKey t (L.enc x) es).run P w = .ok (match es.zipIdx.find? (fun p => match xs[p.2]? with | some y => L.keq x y | none => false) with | some (e, i) => some (i, e.val) | none => none) w
  bits : ∀ x, Instr.sameBits 10000 (L.enc x) (L.enc x) = true

/-- .. and one whose values are compared -/
def EqOk (P : Program) (t : TypeId) (L : LTy) : Prop :=
  ∀ x y w, (Op.equal t (L.enc x) (L.enc y)).run P w = .ok (L.keq x y) w ∧ ∀ op a b, (Go.eqGuard op t a b (L.enc x) (L.enc y)).run P w = .ok () w

structure Cfg (P : Program) where
  tb : Nat → TB
  sz : Nat → Option Nat
  by_ : Nat → Option Nat
  zl : Nat → Option (List Value)
  hz : Nat → Bool
  lt : Nat → Option LTy
  ok_tb : ∀ t, TbOk P t (tb t)
  ok_sz : ∀ t n, sz t = some n → ∃ i, P.info? t = some i ∧ i.size = n
  ok_by : ∀ t n, by_ t = some n → ∃ i, P.info? t = some i ∧ i.bytes = n
  ok_zl : ∀ t l, zl t = some l → ZlOk P t l
  ok_hz : ∀ t, hz t = true → ∃ i v, P.info? t = some i ∧ i.zero = some v
  ok_lt : ∀ t L, lt t = some L → LtOk P t L
  ky : Nat → Bool
  eq_ : Nat → Bool
  zr : Nat → Bool
  fb : Nat → Bool
  ok_ky : ∀ t L, ky t = true → lt t = some L → KeyOk P t L
  ok_eq : ∀ t L, eq_ t = true → lt t = some L → EqOk P t L
  ok_zr : ∀ t L, zr t = true → lt t = some L → ∃ i, P.info? t = some i ∧ i.zero = some (L.enc L.zero)
  ok_fb : ∀ f, fb f = true → ∃ fn c, P.funcs[f]? = some fn ∧ fn.body = some c ∧ (fn.name == "runtime.NumGoroutine") = false

/-! ### calls -/
def retK (L : LTy) (K : L.α → World → Prop) : Ending → World → Prop := fun e w' => ∃ x : L.α, e = .returned (L.enc x) ∧ K x w'
/-- a call of function f -/
def cl (P : Program) (L : LTy) (f : FuncId) (args : Array Value) (K : L.α → World → Prop) (w : World) : Prop := Calls P f args w (retK L K)

/-- a call of a function value comes to R -/
def InvV (P : Program) (v : Value) (args : Array Value) (w : World) (R : Ending → World → Prop) : Prop :=
  match v with
  | .func (.func f) first cap => (∃ fn c, P.funcs[f]? = some fn ∧ fn.body = some c ∧ (fn.name == "runtime.NumGoroutine") = false) ∧ Calls P f (first ++ args ++ cap) w R
  | .func (.yield l) first _ => ∃ fn tmps assign body, (Instr.yield l (first ++ args)).run P w = .ok (.round l fn tmps assign body) w ∧ RoundIn Fence.wide 0 P l fn tmps assign body w R
  | _ => False
def clv (P : Program) (L : LTy) (v : Value) (args : Array Value) (K : L.α → World → Prop) (w : World) : Prop := InvV P v args w (retK L K)

/-! ### appends -/
def reps (n : Nat) (z : List Value) : List Value := (List.replicate n z).flatten
/-- the cells of a slice's elements -/
def cellsAt (w : World) (s : Sl) (sz : Nat) (cs : List Value) : Prop := cs.length = s.len * sz ∧ ((cs = [] ∧ s.a = none) ∨ ∃ p, s.a = some p ∧ has w p cs)
def apnd (e sz by_ : Nat) (z : List Value) (s x : Sl) (K : Sl → World → Prop) (w : World) : Prop :=
  ∃ new, cellsAt w x sz new ∧ new.all Value.oneCell' = true ∧
    (s.len + x.len ≤ s.cap → (new = [] ∧ K ⟨s.a, s.len + x.len, s.cap⟩ w) ∨ (∃ a, s.a = some a ∧ st (a.add (s.len * sz)) new (K ⟨s.a, s.len + x.len, s.cap⟩) w)) ∧
    (s.cap < s.len + x.len → ∃ old, cellsAt w s sz old ∧ Builtin.nextslicecap (s.len + x.len) s.cap * by_ ≤ 2 ^ 48 ∧
      ∀ c', s.len + x.len ≤ c' → c' < 2 ^ 63 → K ⟨some ⟨w.heap.size, 0, none⟩, s.len + x.len, c'⟩ (w.drew.alloc (.cells (old ++ new ++ reps (c' - (s.len + x.len)) z).toArray e)))

/-- make([]T, l, c) -/
def mks (e by_ : Nat) (z : List Value) (l c : Int) (K : Sl → World → Prop) (w : World) : Prop :=
  0 ≤ l ∧ l ≤ c ∧ (by_ : Int) * c ≤ 2 ^ 48 ∧ c < 2 ^ 62 ∧ newB (.cells (reps c.toNat z).toArray e) (fun b w' => K ⟨some ⟨b, 0, none⟩, l.toNat, c.toNat⟩ w') w

/-- where s[l:h:m] begins -/
def slA (a : Option Addr) (m l sz : Nat) : Option Addr := if m = l then a else a.map (·.add (l * sz))

/-! ### operators -/
def binV (op : BinOp) (a b : Value) : Option Value :=
  match op, a, b with
  | .add, .int k x, .int k' y => if k = k' then some (.int k (k.wrap (x + y))) else none
  | .sub, .int k x, .int k' y => if k = k' then some (.int k (k.wrap (x - y))) else none
  | .mul, .int k x, .int k' y => if k = k' then some (.int k (k.wrap (x * y))) else none
  | .and, .int k x, .int k' y => if k = k' then some (.int k (k.wrap ((BitVec.ofInt k.bits x &&& BitVec.ofInt k.bits y).toNat))) else none
  | .or, .int k x, .int k' y => if k = k' then some (.int k (k.wrap ((BitVec.ofInt k.bits x ||| BitVec.ofInt k.bits y).toNat))) else none
  | .xor, .int k x, .int k' y => if k = k' then some (.int k (k.wrap ((BitVec.ofInt k.bits x ^^^ BitVec.ofInt k.bits y).toNat))) else none
  | .andNot, .int k x, .int k' y => if k = k' then some (.int k (k.wrap ((BitVec.ofInt k.bits x &&& ~~~ BitVec.ofInt k.bits y).toNat))) else none
  | .eql, .int k x, .int k' y => if k = k' then some (.bool (x == y)) else none
  | .neq, .int k x, .int k' y => if k = k' then some (.bool (x != y)) else none
  | .lss, .int k x, .int k' y => if k = k' then some (.bool (decide (x < y))) else none
  | .leq, .int k x, .int k' y => if k = k' then some (.bool (decide (x ≤ y))) else none
  | .gtr, .int k x, .int k' y => if k = k' then some (.bool (decide (x > y))) else none
  | .geq, .int k x, .int k' y => if k = k' then some (.bool (decide (x ≥ y))) else none
  | .eql, .string x, .string y => some (.bool (x.toList == y.toList))
  | .neq, .string x, .string y => some (.bool (!(x.toList == y.toList)))
  | _, _, _ => none

/-- equality of what is no number -/
def eqV {P : Program} (C : Cfg P) (t : TypeId) (a b : Value) : Option Bool :=
  match a, b with
  | .bool x, .bool y => (match C.tb t with | .bool => some (x == y) | _ => none)
  | .pointer x, .pointer none => (match C.tb t with | .ptr _ => some x.isNone | _ => none)
  | .pointer none, .pointer (some _) => (match C.tb t with | .ptr _ => some false | _ => none)
  | .slice x _ _, .slice none _ _ => (match C.tb t with | .slice _ => some x.isNone | _ => none)
  | .agg xs, .agg ys =>
    (match C.eq_ t, C.lt t with
     | true, some L => (match L.dec (.agg xs), L.dec (.agg ys) with | some x, some y => some (L.keq x y) | _, _ => none)
     | _, _ => none)
  | _, _ => none

/-- the operators that may panic -/
def divV (op : BinOp) (k : IntKind) (x y : Int) (K : Value → World → Prop) (w : World) : Prop :=
  match op with
  | .quo => y ≠ 0 ∧ K (.int k (k.wrap (x.tdiv y))) w
  | .rem => y ≠ 0 ∧ K (.int k (x.tmod y)) w
  | .shl => 0 ≤ y ∧ K (.int k (k.wrap (x * 2 ^ (min y.toNat k.bits)))) w
  | .shr => 0 ≤ y ∧ K (.int k (x.fdiv (2 ^ (min y.toNat k.bits)))) w
  | _ => False

def unV (op : UnOp) (v : Value) : Option Value :=
  match op, v with
  | .not, .bool b => some (.bool !b)
  | .neg, .int k x => some (.int k (k.wrap (0 - x)))
  | .xor, .int k x => some (.int k (k.wrap ((BitVec.ofInt k.bits (if k.signed then -1 else k.max) ^^^ BitVec.ofInt k.bits x).toNat)))
  | _, _ => none

/-- min, max -/
def mmStep (mx : Bool) (acc : Option Value) (v : Value) : Option Value :=
  match acc, v with
  | some (.int k' a), .int k'' b => (match decide (k' = k'') with | true => some (.int k' (match mx with | true => (if b > a then b else a) | false => (if b < a then b else a))) | false => none)
  | _, _ => none
def mmV (mx : Bool) : List Value → Option Value
  | [] => none
  | .int k x :: r => r.foldl (mmStep mx) (some (.int k x))
  | _ => none

def allO (ρ : Operand → Option Value) : List Operand → Option (List Value)
  | [] => some []
  | x :: r => match ρ x, allO ρ r with | some v, some vs => some (v :: vs) | _, _ => none

/-- the cells of a struct's parts, field by field -/
def segs0 {P : Program} (C : Cfg P) : List (Nat × TypeId) → Option (List (List Value))
  | [] => some []
  | (_, t) :: r => match C.zl t, segs0 C r with | some z, some s => some (z :: s) | _, _ => none
def segsP : List (Nat × Value) → List (List Value) → Option (List (List Value))
  | [], s => some s
  | (i, v) :: r, s => match s[i]? with
    | some z => (match decide ((cellsL v).length = z.length) with | true => segsP r (s.set i (cellsL v)) | false => none)
    | none => none
/-- do the fields lie one behind the other? -/
def layB (fs : List (Nat × TypeId)) : List (List Value) → Nat → Bool
  | s :: r, off => (match fs with | (o, _) :: fs => o == off && layB fs r (off + s.length) | [] => false)
  | [], _ => fs.isEmpty

end Go.Dk
