/- Code: its formula. -/
import Derived.Test.YtdmncelglohmiaaDkP
import Derived.RangeFuncIn
import Derived.RangeFuncLeaves
import Derived.RangeFuncRecord
namespace Go.Dk
open Go
set_option linter.unusedSimpArgs false
set_option linter.unusedVariables false

variable {P : Program} (C : Cfg P)

/-! ### typed slots that are handed on -/
def lty (t : TypeId) : LTy := (C.lt t).getD lUnit
def StT : List (Nat × TypeId) → Type
  | [] => Unit
  | [x] => (lty C x.2).α
  | x :: y :: r => (lty C x.2).α × StT (y :: r)
def setO : (l : List (Nat × TypeId)) → Env → StT C l → Env
  | [], E, _ => E
  | [x], E, v => upd E x.1 ((lty C x.2).enc v)
  | x :: y :: r, E, v => upd (setO (y :: r) E v.2) x.1 ((lty C x.2).enc v.1)
def decO : (l : List (Nat × TypeId)) → Env → (StT C l → Prop) → Prop
  | [], _, f => f ()
  | [x], E, f => onO (lkp E x.1) fun v => onO ((lty C x.2).dec v) f
  | x :: y :: r, E, f => onO (lkp E x.1) fun v => onO ((lty C x.2).dec v) fun a => decO (y :: r) E fun b => f (a, b)
def fgt : List Nat → Env → Env
  | [], E => E
  | t :: r, E => (fgt r E).set t none

/-- arguments of yield -/
def ArT : List TypeId → Type
  | [] => Unit
  | [t] => (lty C t).α
  | t :: u :: r => (lty C t).α × ArT (u :: r)
def encA : (l : List TypeId) → ArT C l → List Value
  | [], _ => []
  | [t], v => [(lty C t).enc v]
  | t :: u :: r, v => (lty C t).enc v.1 :: encA (u :: r) v.2
def updL : List Nat → List Value → Env → Env
  | [], _, E => E
  | _, [], E => E
  | d :: ds, v :: vs, E => updL ds vs (upd E d v)

inductive Ann
  | leaf
  | two (a b : Ann)
  | one (a : Ann)
  | reg (H : List (Nat × Nat)) (cs : List (List Nat))
  | loop (mods : List Nat) (outs : List (Nat × TypeId)) (a : Ann)
  | loopD (mods : List Nat) (outs : List (Nat × TypeId)) (a : Ann)
  | join (mods : List Nat) (outs : List (Nat × TypeId)) (a : Ann)
  | joinD (mods : List Nat) (outs : List (Nat × TypeId)) (a : Ann)
  | rng (ts : List TypeId) (a b : Ann)

def lpO (r : Loop) (s : LoopState) (p : Option Code) : Obj := .loop { r with state := s, pending := p }
def yl (l : Nat) : Value := .func (.yield l) #[] #[]

/-- a call of a closure, of a function -/
def InvC (P : Program) (v : Value) (args : Array Value) (w : World) (R : Ending → World → Prop) : Prop :=
  match v with
  | .func (.func f) first cap => (∃ fn c, P.funcs[f]? = some fn ∧ fn.body = some c ∧ (fn.name == "runtime.NumGoroutine") = false) ∧ Calls P f (first ++ args ++ cap) w R
  | _ => False

abbrev Kt := Env → List Nat → World → Prop

/-- what comes behind a range over a function -/
def jumpK (p : Option Code) (K : Prop) (Kx : Nat → Prop) (Kr : Prop) : Prop :=
  match p with
  | none => K
  | some .ret => Kr
  | some (.exit id) => Kx id
  | _ => False

/-- blocks for a range over a function; d: the deferred calls' -/
def rngB (rd : Option Nat) (D : List Nat) (f : Nat → List Nat → World → Prop) (r : Loop) (w : World) : Prop :=
  match rd with
  | none => newB (.deferred (some [])) (fun d w1 => newB (lpO r .ready none) (fun l w2 => f l (d :: D) w2) w1) w
  | some l0 => (∃ r0, w.heap[l0]? = some (.loop r0)) ∧ newB (lpO r .ready none) (fun l w2 => f l D w2) w

/-- the record stands so -/
def lpIs (w : World) (l : Nat) (r : Loop) (s : LoopState) (p : Option Code) : Prop := w.heap[l]? = some (lpO r s p)

/-- the end of a round -/
def rEnd (l : Nat) (r : Loop) (p : Option Code) (R : Ending → World → Prop) (w : World) : Prop :=
  lpIs w l r .busy none ∧ R (.returned (.bool p.isNone)) (w.putObj l (lpO r (match p with | none => .ready | some _ => .done) p))

def interp : Code → Ann → Option Nat → Env → List Nat → Kt → (Nat → Kt) → Kt → World → Prop := fun c =>
  Code.rec (motive := fun _ => Ann → Option Nat → Env → List Nat → Kt → (Nat → Kt) → Kt → World → Prop)
    (fun _ _ E D K _ _ w => K E D w)   -- skip
    (fun _ ops draw ann _ E D K _ _ w => match ann with
      | .reg _ cs => regE C ops draw cs (fun E w => K E D w) E w
      | .join mods outs (.reg _ cs) => ∀ X : StT C outs → World → Prop, (∀ x w, K (setO C outs (fgt mods E) x) D w → X x w) → regE C ops draw cs (fun E w => decO C outs E fun x => X x w) E w
      | _ => regE C ops draw [] (fun E w => K E D w) E w)
    (fun _ _ ia ib ann rd E D K Kx Kr w => match ann with
      | .two a b => ia a rd E D (fun E D w => ib b rd E D K Kx Kr w) Kx Kr w
      | _ => False)
    (fun c _ _ it ie ann rd E D K Kx Kr w => match ann with
      | .two a b => onBl (evalE E c) fun t => onB t (it a rd E D K Kx Kr w) (ie b rd E D K Kx Kr w)
      | .join mods outs (.two a b) => ∀ X : StT C outs → World → Prop, (∀ x w, K (setO C outs (fgt mods E) x) D w → X x w) →
          onBl (evalE E c) fun t => onB t (it a rd E D (fun E _ w => decO C outs E fun x => X x w) Kx Kr w) (ie b rd E D (fun E _ w => decO C outs E fun x => X x w) Kx Kr w)
      | .joinD mods outs (.two a b) => ∀ X : StT C outs → List Nat → World → Prop, (∀ x D w, K (setO C outs (fgt mods E) x) D w → X x D w) →
          onBl (evalE E c) fun t => onB t (it a rd E D (fun E D w => decO C outs E fun x => X x D w) Kx Kr w) (ie b rd E D (fun E D w => decO C outs E fun x => X x D w) Kx Kr w)
      | _ => False)
    (fun id _ ib ann rd E D K Kx Kr w => match ann with
      | .one a => ib a rd E D K (fun j E D w => match Nat.beq j id with | true => K E D w | false => Kx j E D w) Kr w
      | .join mods outs (.one a) => ∀ X : StT C outs → World → Prop, (∀ x w, K (setO C outs (fgt mods E) x) D w → X x w) →
          ib a rd E D (fun E _ w => decO C outs E fun x => X x w) (fun j E D w => match Nat.beq j id with | true => (decO C outs E fun x => X x w) | false => Kx j E D w) Kr w
      | .joinD mods outs (.one a) => ∀ X : StT C outs → List Nat → World → Prop, (∀ x D w, K (setO C outs (fgt mods E) x) D w → X x D w) →
          ib a rd E D (fun E D w => decO C outs E fun x => X x D w) (fun j E D w => match Nat.beq j id with | true => (decO C outs E fun x => X x D w) | false => Kx j E D w) Kr w
      | _ => False)
    (fun _ ib ann rd E D _ Kx Kr w => match ann with
      | .loop mods outs a => ∀ X : StT C outs → World → Prop, (∀ x w, ib a rd (setO C outs (fgt mods E) x) D (fun E _ w => decO C outs E fun x => X x w) Kx Kr w → X x w) → decO C outs E fun x => X x w
      | .loopD mods outs a => ∀ X : StT C outs → List Nat → World → Prop, (∀ x D w, ib a rd (setO C outs (fgt mods E) x) D (fun E D w => decO C outs E fun x => X x D w) Kx Kr w → X x D w) → decO C outs E fun x => X x D w
      | _ => False)
    (fun f params _ _ ias ibd ann rd E D K Kx Kr w => match ann with
      | .rng ts a b => onO (evalE E f) fun fv => ∀ r : Loop, rngB rd D (fun l D' w2 =>
          (∀ (x : ArT C ts) (R : Ending → World → Prop) (w : World), lpIs w l r .ready none →
            ias a (some l) (updL params.toList (encA C ts x) E) [] (fun E1 _ w1 => lpIs w1 l r .ready none ∧
              ibd b (some l) E1 [] (fun _ _ w => rEnd l r none R w) (fun j _ _ w => rEnd l r (some (.exit j)) R w) (fun _ _ w => rEnd l r (some .ret) R w) (w1.putObj l (lpO r .busy none)))
              (fun _ _ _ _ => False) (fun _ _ _ => False) w →
            InvV P (yl l) (encA C ts x).toArray w R) →
          InvC P fv #[yl l] w2 fun e w3 => e = .returned (.tuple #[]) ∧ ∃ s p, lpIs w3 l r s p ∧ s ≠ .busy ∧
            jumpK p (K E D' (w3.putObj l (lpO r .exhausted p))) (fun j => Kx j E D' (w3.putObj l (lpO r .exhausted p))) (Kr E D' (w3.putObj l (lpO r .exhausted p)))) r w
      | _ => False)
    (fun id _ _ E D _ Kx _ w => Kx id E D w)   -- exit
    (fun _ _ _ _ _ _ _ _ _ _ => False)   -- scope
    (fun _ _ _ E D K _ _ w => K E D w)   -- label
    (fun _ _ _ _ _ _ _ _ _ => False)   -- goto
    (fun _ _ E D _ _ Kr w => Kr E D w)   -- ret
    (fun _ _ _ _ _ _ _ _ _ => False)   -- refuse
    c

/-- slots that code writes -/
def dsts : Code → List Nat
  | .region _ ops _ => ops.toList.filterMap (·.dst)
  | .seq a b => dsts a ++ dsts b
  | .cond _ a b => dsts a ++ dsts b
  | .block _ a => dsts a
  | .loop a => dsts a
  | .scope a => dsts a
  | _ => []
/-- no range over a function -/
def noRng : Code → Bool
  | .seq a b => noRng a && noRng b
  | .cond _ a b => noRng a && noRng b
  | .block _ a => noRng a
  | .loop a => noRng a
  | .scope a => noRng a
  | .rangeFunc .. => false
  | _ => true

/-- the look at the notes -/
def annOk (tb : Nat → TB) : Code → Ann → Bool
  | .region _ ops draw, .reg H cs => !draw || regB tb ops H cs
  | .region _ ops draw, .join mods outs (.reg H cs) => (!draw || regB tb ops H cs) && (ops.toList.filterMap (·.dst)).all (mods.contains ·)
  | .region _ ops draw, _ => !draw
  | .seq a b, .two x y => annOk tb a x && annOk tb b y
  | .cond _ a b, .two x y => annOk tb a x && annOk tb b y
  | .cond _ a b, .join mods outs (.two x y) => annOk tb a x && annOk tb b y && (dsts a ++ dsts b).all (mods.contains ·) && noRng a && noRng b
  | .cond _ a b, .joinD mods outs (.two x y) => annOk tb a x && annOk tb b y && (dsts a ++ dsts b).all (mods.contains ·)
  | .block _ a, .one x => annOk tb a x
  | .block _ a, .join mods outs (.one x) => annOk tb a x && (dsts a).all (mods.contains ·) && noRng a
  | .block _ a, .joinD mods outs (.one x) => annOk tb a x && (dsts a).all (mods.contains ·)
  | .loop a, .loop mods outs x => annOk tb a x && (dsts a).all (mods.contains ·) && noRng a
  | .loop a, .loopD mods outs x => annOk tb a x && (dsts a).all (mods.contains ·)
  | .rangeFunc _ params as_ bd, .rng ts x y => annOk tb as_ x && annOk tb bd y && params.size == ts.length && noRng as_
  | .skip, _ | .label _, _ | .exit _, _ | .ret, _ => true
  | _, _ => false

end Go.Dk
