/- Code: its formula. -/
import Derived.Test.YtdmncelglohmiaaK2
import Derived.RangeFuncIn
import Derived.RangeFuncLeaves
import Derived.RangeFuncRecord
import Derived.WideKeyRuns
import Derived.Below
import Derived.Laws.Append
import Derived.Laws.Entries
namespace Go.Dk
open Go
set_option linter.unusedSimpArgs false
set_option linter.unusedVariables false

variable {P : Program} (C : Cfg P)

/-! ### typed slots that are handed on -/
def lty (t : TypeId) : LTy := (C.lt t).getD lUnit
def StT : List (Nat × TypeId) → Type
  | [] => Unit
  | [x] => (lty C x.2).α
  | x :: y :: r => (lty C x.2).α × StT (y :: r)
def setO : (l : List (Nat × TypeId)) → Env → StT C l → Env
  | [], E, _ => E
  | [x], E, v => upd E x.1 ((lty C x.2).enc v)
  | x :: y :: r, E, v => upd (setO (y :: r) E v.2) x.1 ((lty C x.2).enc v.1)
def decO : (l : List (Nat × TypeId)) → Env → (StT C l → Prop) → Prop
  | [], _, f => f ()
  | [x], E, f => onO (lkp E x.1) fun v => onO ((lty C x.2).dec v) f
  | x :: y :: r, E, f => onO (lkp E x.1) fun v => onO ((lty C x.2).dec v) fun a => decO (y :: r) E fun b => f (a, b)
def fgt : List Nat → Env → Env
  | [], E => E
  | t :: r, E => (fgt r E).set t none

/-- arguments of yield -/
def ArT : List TypeId → Type
  | [] => Unit
  | [t] => (lty C t).α
  | t :: u :: r => (lty C t).α × ArT (u :: r)
def encA : (l : List TypeId) → ArT C l → List Value
  | [], _ => []
  | [t], v => [(lty C t).enc v]
  | t :: u :: r, v => (lty C t).enc v.1 :: encA (u :: r) v.2
def updL : List Nat → List Value → Env → Env
  | [], _, E => E
  | _, [], E => E
  | d :: ds, v :: vs, E => updL ds vs (upd E d v)

inductive Ann
  | leaf
  | two (a b : Ann)
  | one (a : Ann)
  | reg (H : List (Nat × Nat)) (cs : List (List Nat))
  | loop (mods : List Nat) (outs : List (Nat × TypeId)) (a : Ann)
  | loopD (mods : List Nat) (outs : List (Nat × TypeId)) (a : Ann)
  | join (mods : List Nat) (outs : List (Nat × TypeId)) (a : Ann)
  | joinD (mods : List Nat) (outs : List (Nat × TypeId)) (a : Ann)
  | rng (ts : List TypeId) (a b : Ann)

def lpO (r : Loop) (s : LoopState) (p : Option Code) : Obj := .loop { r with state := s, pending := p }
def yl (l : Nat) : Value := .func (.yield l) #[] #[]

/-- a call of a closure, of a function -/
def InvC (P : Program) (v : Value) (args : Array Value) (w : World) (R : Ending → World → Prop) : Prop :=
  match v with
  | .func (.func f) first cap => (∃ fn c, P.funcs[f]? = some fn ∧ fn.body = some c ∧ (fn.name == "runtime.NumGoroutine") = false) ∧ Calls P f (first ++ args ++ cap) w R
  | _ => False

abbrev Kt := Env → List Nat → World → Prop

/-- what comes behind a range over a function -/
def jumpK (p : Option Code) (K : Prop) (Kx : Nat → Prop) (Kr : Prop) : Prop :=
  match p with
  | none => K
  | some .ret => Kr
  | some (.exit id) => Kx id
  | _ => False

/-- blocks for a range over a function; d: the deferred calls' -/
def rngB (rd : Option Nat) (D : List Nat) (f : Nat → List Nat → World → Prop) (r : Loop) (w : World) : Prop :=
  match rd with
  | none => newB (.deferred (some [])) (fun d w1 => newB (lpO r .ready none) (fun l w2 => f l (d :: D) w2) w1) w
  | some l0 => (∃ r0, w.heap[l0]? = some (.loop r0)) ∧ newB (lpO r .ready none) (fun l w2 => f l D w2) w

/-- the record stands so -/
def lpIs (w : World) (l : Nat) (r : Loop) (s : LoopState) (p : Option Code) : Prop := w.heap[l]? = some (lpO r s p)

/-- the end of a round -/
def rEnd (l : Nat) (r : Loop) (p : Option Code) (R : Ending → World → Prop) (w : World) : Prop :=
  lpIs w l r .busy none ∧ R (.returned (.bool p.isNone)) (w.putObj l (lpO r (match p with | none => .ready | some _ => .done) p))

def interp : Code → Ann → Option Nat → Env → List Nat → Kt → (Nat → Kt) → Kt → World → Prop := fun c =>
  Code.rec (motive := fun _ => Ann → Option Nat → Env → List Nat → Kt → (Nat → Kt) → Kt → World → Prop)
    (fun _ _ E D K _ _ w => K E D w)   -- skip
    (fun _ ops draw ann _ E D K _ _ w => match ann with
      | .reg _ cs => regE C ops draw cs (fun E w => K E D w) E w
      | .join mods outs (.reg _ cs) => ∀ X : StT C outs → World → Prop, (∀ x w, K (setO C outs (fgt mods E) x) D w → X x w) → regE C ops draw cs (fun E w => decO C outs E fun x => X x w) E w
      | _ => regE C ops draw [] (fun E w => K E D w) E w)
    (fun _ _ ia ib ann rd E D K Kx Kr w => match ann with
      | .two a b => ia a rd E D (fun E D w => ib b rd E D K Kx Kr w) Kx Kr w
      | _ => False)
    (fun c _ _ it ie ann rd E D K Kx Kr w => match ann with
      | .two a b => onBl (evalE E c) fun t => onB t (it a rd E D K Kx Kr w) (ie b rd E D K Kx Kr w)
      | .join mods outs (.two a b) => ∀ X : StT C outs → World → Prop, (∀ x w, K (setO C outs (fgt mods E) x) D w → X x w) →
          onBl (evalE E c) fun t => onB t (it a rd E D (fun E _ w => decO C outs E fun x => X x w) Kx Kr w) (ie b rd E D (fun E _ w => decO C outs E fun x => X x w) Kx Kr w)
      | .joinD mods outs (.two a b) => ∀ X : StT C outs → List Nat → World → Prop, (∀ x D w, K (setO C outs (fgt mods E) x) D w → X x D w) →
          onBl (evalE E c) fun t => onB t (it a rd E D (fun E D w => decO C outs E fun x => X x D w) Kx Kr w) (ie b rd E D (fun E D w => decO C outs E fun x => X x D w) Kx Kr w)
      | _ => False)
    (fun id _ ib ann rd E D K Kx Kr w => match ann with
      | .one a => ib a rd E D K (fun j E D w => match Nat.beq j id with | true => K E D w | false => Kx j E D w) Kr w
      | .join mods outs (.one a) => ∀ X : StT C outs → World → Prop, (∀ x w, K (setO C outs (fgt mods E) x) D w → X x w) →
          ib a rd E D (fun E _ w => decO C outs E fun x => X x w) (fun j E D w => match Nat.beq j id with | true => (decO C outs E fun x => X x w) | false => Kx j E D w) Kr w
      | .joinD mods outs (.one a) => ∀ X : StT C outs → List Nat → World → Prop, (∀ x D w, K (setO C outs (fgt mods E) x) D w → X x D w) →
          ib a rd E D (fun E D w => decO C outs E fun x => X x D w) (fun j E D w => match Nat.beq j id with | true => (decO C outs E fun x => X x D w) | false => Kx j E D w) Kr w
      | _ => False)
    (fun _ ib ann rd E D _ Kx Kr w => match ann with
      | .loop mods outs a => ∀ X : StT C outs → World → Prop, (∀ x w, ib a rd (setO C outs (fgt mods E) x) D (fun E _ w => decO C outs E fun x => X x w) Kx Kr w → X x w) → decO C outs E fun x => X x w
      | .loopD mods outs a => ∀ X : StT C outs → List Nat → World → Prop, (∀ x D w, ib a rd (setO C outs (fgt mods E) x) D (fun E D w => decO C outs E fun x => X x D w) Kx Kr w → X x D w) → decO C outs E fun x => X x D w
      | _ => False)
    (fun f params _ _ ias ibd ann rd E D K Kx Kr w => match ann with
      | .rng ts a b => onO (evalE E f) fun fv => ∀ r : Loop, rngB rd D (fun l D' w2 =>
          (∀ (x : ArT C ts) (R : Ending → World → Prop) (w : World), lpIs w l r .ready none →
            ias a (some l) (updL params.toList (encA C ts x) E) [] (fun E1 _ w1 => lpIs w1 l r .ready none ∧
              ibd b (some l) E1 [] (fun _ _ w => rEnd l r none R w) (fun j _ _ w => rEnd l r (some (.exit j)) R w) (fun _ _ w => rEnd l r (some .ret) R w) (w1.putObj l (lpO r .busy none)))
              (fun _ _ _ _ => False) (fun _ _ _ => False) w →
            InvV P (yl l) (encA C ts x).toArray w R) →
          InvC P fv #[yl l] w2 fun e w3 => e = .returned (.tuple #[]) ∧ ∃ s p, lpIs w3 l r s p ∧ s ≠ .busy ∧
            jumpK p (K E D' (w3.putObj l (lpO r .exhausted p))) (fun j => Kx j E D' (w3.putObj l (lpO r .exhausted p))) (Kr E D' (w3.putObj l (lpO r .exhausted p)))) r w
      | _ => False)
    (fun id _ _ E D _ Kx _ w => Kx id E D w)   -- exit
    (fun _ _ _ _ _ _ _ _ _ _ => False)   -- scope
    (fun _ _ _ E D K _ _ w => K E D w)   -- label
    (fun _ _ _ _ _ _ _ _ _ => False)   -- goto
    (fun _ _ E D _ _ Kr w => Kr E D w)   -- ret
    (fun _ _ _ _ _ _ _ _ _ => False)   -- refuse
    c

/-- slots that code writes -/
def dsts : Code → List Nat
  | .region _ ops _ => ops.toList.filterMap (·.dst)
  | .seq a b => dsts a ++ dsts b
  | .cond _ a b => dsts a ++ dsts b
  | .block _ a => dsts a
  | .loop a => dsts a
  | .scope a => dsts a
  | _ => []
/-- no range over a function -/
def noRng : Code → Bool
  | .seq a b => noRng a && noRng b
  | .cond _ a b => noRng a && noRng b
  | .block _ a => noRng a
  | .loop a => noRng a
  | .scope a => noRng a
  | .rangeFunc .. => false
  | _ => true

/-- the look at the notes -/
def annOk (tb : Nat → TB) : Code → Ann → Bool
  | .region _ ops draw, .reg H cs => !draw || regB tb ops H cs
  | .region _ ops draw, .join mods outs (.reg H cs) => (!draw || regB tb ops H cs) && (ops.toList.filterMap (·.dst)).all (mods.contains ·)
  | .region _ ops draw, _ => !draw
  | .seq a b, .two x y => annOk tb a x && annOk tb b y
  | .cond _ a b, .two x y => annOk tb a x && annOk tb b y
  | .cond _ a b, .join mods outs (.two x y) => annOk tb a x && annOk tb b y && (dsts a ++ dsts b).all (mods.contains ·) && noRng a && noRng b
  | .cond _ a b, .joinD mods outs (.two x y) => annOk tb a x && annOk tb b y && (dsts a ++ dsts b).all (mods.contains ·)
  | .block _ a, .one x => annOk tb a x
  | .block _ a, .join mods outs (.one x) => annOk tb a x && (dsts a).all (mods.contains ·) && noRng a
  | .block _ a, .joinD mods outs (.one x) => annOk tb a x && (dsts a).all (mods.contains ·)
  | .loop a, .loop mods outs x => annOk tb a x && (dsts a).all (mods.contains ·) && noRng a
  | .loop a, .loopD mods outs x => annOk tb a x && (dsts a).all (mods.contains ·)
  | .rangeFunc _ params as_ bd, .rng ts x y => annOk tb as_ x && annOk tb bd y && params.size == ts.length && noRng as_
  | .skip, _ | .label _, _ | .exit _, _ | .ret, _ => true
  | _, _ => false

end Go.Dk

namespace Go.Dk
open Go
set_option linter.unusedSimpArgs false
set_option linter.unusedVariables false

variable {P : Program} {C : Cfg P}

def marks (D : List Nat) : List Deferred := D.map fun r => { target := .collected r, args := #[] }
theorem fgt_length : ∀ (m : List Nat) (E : Env), (fgt m E).length = E.length
  | [], _ => rfl
  | t :: r, E => by simp [fgt, fgt_length r E]
theorem lkp_eq : ∀ (E : Env) (t : Nat), lkp E t = (E[t]?).join
  | [], t => by simp [lkp]
  | v :: r, 0 => by simp [lkp]
  | v :: r, t + 1 => by simp [lkp, lkp_eq r t]
theorem lkp_fgt : ∀ (m : List Nat) (E : Env) (t : Nat) (v : Value), lkp (fgt m E) t = some v → t ∉ m ∧ lkp E t = some v
  | [], E, t, v, h => ⟨by simp, h⟩
  | x :: r, E, t, v, h => by
    simp only [fgt] at h
    rw [lkp_eq, List.getElem?_set] at h
    split at h
    · split at h <;> cases h
    · rename_i hx
      rw [← lkp_eq] at h
      obtain ⟨h1, h2⟩ := lkp_fgt r E t v h
      exact ⟨by simp [Ne.symm hx, h1], h2⟩

theorem setO_length : ∀ (l : List (Nat × TypeId)) (E : Env) (x : StT C l), (setO C l E x).length = E.length
  | [], _, _ => rfl
  | [_], _, _ => length_upd _ _ _
  | _ :: y :: r, E, x => by simp only [setO, length_upd]; exact setO_length (y :: r) E x.2

/-- what is known behind a place where ways meet -/
theorem lkp_setO : ∀ (l : List (Nat × TypeId)) (E E1 : Env) (x : StT C l) (f : StT C l → Prop), decO C l E1 f → ∃ y, f y ∧ ∀ t v, lkp (setO C l E y) t = some v → lkp E1 t = some v ∨ lkp E t = some v
  | [], E, E1, x, f, h => ⟨(), h, fun t v hv => .inr hv⟩
  | [a], E, E1, x, f, h => by
    obtain ⟨u, hu, h⟩ := onO_iff.1 h
    obtain ⟨y, hy, h⟩ := onO_iff.1 h
    refine ⟨y, h, fun t v hv => ?_⟩
    simp only [setO] at hv
    rw [lkp_upd] at hv
    split at hv
    · rename_i hc; cases hv; left; rw [hc.1, hu, (lty C a.2).h_dec _ _ hy]
    · exact .inr hv
  | a :: b :: r, E, E1, x, f, h => by
    obtain ⟨u, hu, h⟩ := onO_iff.1 h
    obtain ⟨y, hy, h⟩ := onO_iff.1 h
    obtain ⟨z, hz, hk⟩ := lkp_setO (b :: r) E E1 x.2 _ h
    refine ⟨(y, z), hz, fun t v hv => ?_⟩
    simp only [setO] at hv
    rw [lkp_upd] at hv
    split at hv
    · rename_i hc; cases hv; left; rw [hc.1, hu, (lty C a.2).h_dec _ _ hy]
    · exact hk t v hv

theorem decO_ex : ∀ (l : List (Nat × TypeId)) (E1 : Env) (f : StT C l → Prop), decO C l E1 f → ∃ y, f y ∧ ∀ E t v, lkp (setO C l E y) t = some v → lkp E1 t = some v ∨ lkp E t = some v
  | [], E1, f, h => ⟨(), h, fun E t v hv => .inr hv⟩
  | [a], E1, f, h => by
    obtain ⟨u, hu, h⟩ := onO_iff.1 h
    obtain ⟨y, hy, h⟩ := onO_iff.1 h
    refine ⟨y, h, fun E t v hv => ?_⟩
    simp only [setO] at hv
    rw [lkp_upd] at hv
    split at hv
    · rename_i hc; cases hv; left; rw [hc.1, hu, (lty C a.2).h_dec _ _ hy]
    · exact .inr hv
  | a :: b :: r, E1, f, h => by
    obtain ⟨u, hu, h⟩ := onO_iff.1 h
    obtain ⟨y, hy, h⟩ := onO_iff.1 h
    obtain ⟨z, hz, hk⟩ := decO_ex (b :: r) E1 _ h
    refine ⟨(y, z), hz, fun E t v hv => ?_⟩
    simp only [setO] at hv
    rw [lkp_upd] at hv
    split at hv
    · rename_i hc; cases hv; left; rw [hc.1, hu, (lty C a.2).h_dec _ _ hy]
    · exact hk E t v hv

/-- the slots at a meeting point, agreed on by the frame that comes there -/
theorem agree_join {mods : List Nat} {outs : List (Nat × TypeId)} {E E1 : Env} {a a1 : Act} {y : StT C outs} (hA : Agree E a) (hA1 : Agree E1 a1) (hF : Fr mods a a1)
    (hy : ∀ E t v, lkp (setO C outs E y) t = some v → lkp E1 t = some v ∨ lkp E t = some v) : Agree (setO C outs (fgt mods E) y) a1 := by
  refine ⟨?_, fun t v hv => ?_⟩
  · rw [setO_length, fgt_length, hA.1, hF.1]
  · rcases hy _ t v hv with h | h
    · exact hA1.2 t v h
    · obtain ⟨hm, hl⟩ := lkp_fgt _ _ _ _ h
      rw [hF.2 t hm]; exact hA.2 t v hl

theorem agree_fgt {mods : List Nat} {E : Env} {a a1 : Act} (hA : Agree E a) (hF : Fr mods a a1) : ∀ t v, lkp (fgt mods E) t = some v → a1.tmps[t]? = some v := by
  intro t v h
  obtain ⟨hm, hl⟩ := lkp_fgt _ _ _ _ h
  rw [hF.2 t hm]; exact hA.2 t v hl

/-- what a way out owes -/
structure Outs (C : Cfg P) (m : List Nat) (nr : Bool) (a : Act) (K : Kt) (Kx : Nat → Kt) (Kr : Kt) (Q : Exit → Act → World → Prop) : Prop where
  n : ∀ E' D' a' w', Agree E' a' → a'.defers = marks D' → Fr m a a' → (nr = true → a'.defers = a.defers) → K E' D' w' → Q .normal a' w'
  x : ∀ id E' D' a' w', Agree E' a' → a'.defers = marks D' → Fr m a a' → (nr = true → a'.defers = a.defers) → Kx id E' D' w' → Q (.exit id) a' w'
  r : ∀ E' D' a' w', Agree E' a' → a'.defers = marks D' → Kr E' D' w' → Q .ret a' w'

theorem mods_sub {l mods : List Nat} (h : l.all (mods.contains ·) = true) : ∀ t ∈ l, t ∈ mods := by
  intro t ht
  have := List.all_eq_true.1 h t ht
  simpa using this

theorem updL_agree : ∀ (ds : List Nat) (vs : List Value) (E : Env) (tm : Array Value), Agree E { tmps := tm, defers := [] } → Agree (updL ds vs E) { tmps := (ds.zip vs).foldl (fun tm (x : Nat × Value) => tm.setIfInBounds x.1 x.2) tm, defers := [] }
  | [], vs, E, tm, h => by simpa [updL] using h
  | d :: ds, [], E, tm, h => by simpa [updL] using h
  | d :: ds, v :: vs, E, tm, h => by
    simp only [updL, List.zip_cons_cons, List.foldl_cons]
    exact updL_agree ds vs _ _ (h.put (some d) v)

theorem encA_length : ∀ (l : List TypeId) (x : ArT C l), (encA C l x).length = l.length
  | [], _ => rfl
  | [_], _ => rfl
  | _ :: u :: r, x => by simp [encA, encA_length (u :: r) x.2]


end Go.Dk

namespace Go.Dk
open Go
set_option linter.unusedSimpArgs false
set_option linter.unusedVariables false

variable {P : Program} {C : Cfg P}

theorem loop_sound {rd : Option Nat} {c : Code} {Q : Exit → Act → World → Prop} (X : Act → World → Prop)
    (hX : ∀ a w, X a w → ∀ (b : Frame) (k : List Item) (cs : List Frame), b.roundOf = (fw rd).round → (fw rd).fn b.fn → (fw rd).room (cs.length + 1 + 0) →
      ∃ e a' w', Q e a' w' ∧ ArrivesIn (Machine.fenced P (fw rd)) P (lone (b.atR a (.code c :: .inLoop c :: k)) cs w) b k cs e a' w') {a : Act} {w : World} (h : X a w) :
    (Code.loop c).wpIn (fw rd) 0 P Q a w := by
  intro b k cs hro hb hr
  obtain ⟨e, a', w', hq, harr⟩ := hX a w h b k cs hro hb hr
  exact ⟨e, a', w', hq, .of_steps (.one (fenced_calm hb hr rfl) stepR_loop) harr⟩

/-- the property that the loop's formula is asked at -/
def LoopP (P : Program) (rd : Option Nat) (c : Code) (Q : Exit → Act → World → Prop) (a : Act) (w : World) : Prop :=
  ∀ (b : Frame) (k : List Item) (cs : List Frame), b.roundOf = (fw rd).round → (fw rd).fn b.fn → (fw rd).room (cs.length + 1 + 0) →
      ∃ e a' w', Q e a' w' ∧ ArrivesIn (Machine.fenced P (fw rd)) P (lone (b.atR a (.code c :: .inLoop c :: k)) cs w) b k cs e a' w'

theorem loopP_of {rd : Option Nat} {c : Code} {Q : Exit → Act → World → Prop} {a : Act} {w : World} (h : c.wpIn (fw rd) 0 P (Exit.then (LoopP P rd c Q) Q) a w) : LoopP P rd c Q a w := by
  intro b k cs hro hb hr
  obtain ⟨e, a₁, w₁, hq, harr⟩ := h b (.inLoop c :: k) cs hro hb hr
  cases e with
  | normal =>
    obtain ⟨e₂, a₂, w₂, hq₂, harr₂⟩ := hq b k cs hro hb hr
    exact ⟨e₂, a₂, w₂, hq₂, .of_steps (StepsIn.trans harr (.one (fenced_calm hb hr rfl) stepR_inLoop)) harr₂⟩
  | exit id => exact ⟨_, a₁, w₁, hq, .pass (x := .inLoop c) rfl (fun _ _ => .inl (by simp)) harr⟩
  | goto l => exact ⟨_, a₁, w₁, hq, .pass (x := .inLoop c) rfl (fun _ _ => .inl (by simp)) harr⟩
  | ret => exact ⟨_, a₁, w₁, hq, .pass (x := .inLoop c) rfl (fun _ _ => .inl (by simp)) harr⟩
  | panic ch => exact ⟨_, a₁, w₁, hq, .pass (x := .inLoop c) rfl (fun _ _ => .inl (by simp)) harr⟩
  | outgrown => exact ⟨_, a₁, w₁, hq, .pass (x := .inLoop c) rfl (fun _ _ => .inl (by simp)) harr⟩

/-- where ways meet: what is asked of the meeting point -/
def MeetP (C : Cfg P) (mods : List Nat) (outs : List (Nat × TypeId)) (E : Env) (a : Act) (nr : Bool) (m : List Nat) (N : Act → World → Prop) (x : StT C outs) (D : List Nat) (w : World) : Prop :=
  ∀ a', Agree (setO C outs (fgt mods E) x) a' → a'.defers = marks D → Fr m a a' → (nr = true → a'.defers = a.defers) → N a' w

theorem meet_use {mods m : List Nat} {outs : List (Nat × TypeId)} {E : Env} {a : Act} {nr : Bool} {N : Act → World → Prop} (hA : Agree E a) (hm : ∀ t ∈ m, t ∈ mods) {E' : Env} {D' : List Nat} {a' : Act} {w' : World}
    (hA' : Agree E' a') (hd : a'.defers = marks D') (hF : Fr m a a') (hn : nr = true → a'.defers = a.defers) (h : decO C outs E' fun x => MeetP C mods outs E a nr m N x D' w') : N a' w' := by
  obtain ⟨y, hy, hk⟩ := decO_ex outs E' _ h
  exact hy a' (agree_join hA hA' (hF.sub hm) hk) hd hF hn

theorem interp_sound (hmix : P.follows .mixedOrders = true) : ∀ (c : Code) (ann : Ann) (rd : Option Nat) (E : Env) (D : List Nat) (K : Kt) (Kx : Nat → Kt) (Kr : Kt) (w : World),
    interp C c ann rd E D K Kx Kr w → annOk C.tb c ann = true → ∀ (a : Act) (Q : Exit → Act → World → Prop), Agree E a → a.defers = marks D → Outs C (dsts c) (noRng c) a K Kx Kr Q → c.wpIn (fw rd) 0 P Q a w := by
  intro c
  induction c with
  | skip =>
    intro ann rd E D K Kx Kr w h _ a Q hA hd out
    exact wpIn_skip (out.n E D a w hA hd (Fr.refl _ _) (fun _ => rfl) h)
  | label l =>
    intro ann rd E D K Kx Kr w h _ a Q hA hd out
    exact wpIn_label (out.n E D a w hA hd (Fr.refl _ _) (fun _ => rfl) h)
  | exit id =>
    intro ann rd E D K Kx Kr w h _ a Q hA hd out
    exact wpIn_exit (out.x id E D a w hA hd (Fr.refl _ _) (fun _ => rfl) h)
  | ret =>
    intro ann rd E D K Kx Kr w h _ a Q hA hd out
    exact wpIn_ret (out.r E D a w hA hd h)
  | goto l => intro ann rd E D K Kx Kr w h; exact h.elim
  | refuse s => intro ann rd E D K Kx Kr w h; exact h.elim
  | scope b ih => intro ann rd E D K Kx Kr w h; exact h.elim
  | region id ops draw =>
    intro ann rd E D K Kx Kr w h hok a Q hA hd out
    have plain : ∀ (H : List (Nat × Nat)) (cs : List (List Nat)), (draw = true → regB C.tb ops H cs = true) → regE C ops draw cs (fun E w => K E D w) E w → (Code.region id ops draw).wpIn (fw rd) 0 P Q a w := by
      intro H cs hB h
      exact regE_sound hmix hB h hA (fun E' a' w' h1 h2 h3 h4 => out.n E' D a' w' h1 (h2.trans hd) h3 (fun _ => h2) h4)
    have nodraw : (∀ (h : draw = true), False) → regE C ops draw [] (fun E w => K E D w) E w → (Code.region id ops draw).wpIn (fw rd) 0 P Q a w :=
      fun hn h => plain [] [] (fun hd => (hn hd).elim) h
    cases ann with
    | reg H cs =>
      exact plain H cs (fun hdr => by simp only [annOk, hdr, Bool.not_true, Bool.false_or] at hok; exact hok) h
    | join mods outs b =>
      cases b with
      | reg H cs =>
        simp only [annOk, Bool.and_eq_true] at hok
        have h2 := h (fun x w => MeetP C mods outs E a (noRng (.region id ops draw)) (dsts (.region id ops draw)) (fun a' w' => Q .normal a' w') x D w)
          (fun x w hk a' g1 g2 g3 g4 => out.n _ D a' w g1 g2 g3 g4 hk)
        exact regE_sound hmix (fun hdr => by have := hok.1; simp only [hdr, Bool.not_true, Bool.false_or] at this; exact this) h2 hA
          (fun E' a' w' h1 h2 h3 h4 => meet_use hA (mods_sub hok.2) h1 (h2.trans hd) h3 (fun _ => h2) h4)
      | _ => exact nodraw (fun hdr => by simp [annOk, hdr] at hok) h
    | _ => exact nodraw (fun hdr => by simp [annOk, hdr] at hok) h
  | seq x y ihx ihy =>
    intro ann rd E D K Kx Kr w h hok a Q hA hd out
    cases ann with
    | two p q =>
      simp only [annOk, Bool.and_eq_true] at hok
      refine wpIn_seq (ihx p rd E D _ Kx Kr w h hok.1 a _ hA hd ⟨fun E' D' a' w' g1 g2 g3 g4 g5 => ?_, fun id E' D' a' w' g1 g2 g3 g4 g5 => ?_, fun E' D' a' w' g1 g2 g5 => out.r E' D' a' w' g1 g2 g5⟩)
      · refine ihy q rd E' D' K Kx Kr w' g5 hok.2 a' Q g1 g2 ⟨fun E2 D2 a2 w2 k1 k2 k3 k4 k5 => ?_, fun id E2 D2 a2 w2 k1 k2 k3 k4 k5 => ?_, fun E2 D2 a2 w2 k1 k2 k5 => out.r E2 D2 a2 w2 k1 k2 k5⟩
        · exact out.n E2 D2 a2 w2 k1 k2 ((g3.sub (fun t ht => List.mem_append.2 (.inl ht))).trans (k3.sub (fun t ht => List.mem_append.2 (.inr ht)))) (fun hn => by simp only [noRng, Bool.and_eq_true] at hn; rw [k4 hn.2, g4 hn.1]) k5
        · exact out.x id E2 D2 a2 w2 k1 k2 ((g3.sub (fun t ht => List.mem_append.2 (.inl ht))).trans (k3.sub (fun t ht => List.mem_append.2 (.inr ht)))) (fun hn => by simp only [noRng, Bool.and_eq_true] at hn; rw [k4 hn.2, g4 hn.1]) k5
      · exact out.x id E' D' a' w' g1 g2 (g3.sub (fun t ht => List.mem_append.2 (.inl ht))) (fun hn => by simp only [noRng, Bool.and_eq_true] at hn; exact g4 hn.1) g5
    | _ => exact h.elim
  | cond cnd x y ihx ihy =>
    intro ann rd E D K Kx Kr w h hok a Q hA hd out
    have core : ∀ (p q : Ann) (K : Kt), annOk C.tb x p = true → annOk C.tb y q = true → Outs C (dsts (.cond cnd x y)) (noRng (.cond cnd x y)) a K Kx Kr Q →
        (onBl (evalE E cnd) fun t => onB t (interp C x p rd E D K Kx Kr w) (interp C y q rd E D K Kx Kr w)) → (Code.cond cnd x y).wpIn (fw rd) 0 P Q a w := by
      intro p q K hp hq out h
      obtain ⟨t, ht, h⟩ := onBl_iff h
      refine wpIn_cond (t := t) (hA.eval _ _ ht) ?_
      cases t
      · refine ihy q rd E D K Kx Kr w h hq a Q hA hd ⟨fun E' D' a' w' g1 g2 g3 g4 g5 => out.n E' D' a' w' g1 g2 (g3.sub (fun t ht => List.mem_append.2 (.inr ht))) (fun hn => by simp only [noRng, Bool.and_eq_true] at hn; exact g4 hn.2) g5,
          fun id E' D' a' w' g1 g2 g3 g4 g5 => out.x id E' D' a' w' g1 g2 (g3.sub (fun t ht => List.mem_append.2 (.inr ht))) (fun hn => by simp only [noRng, Bool.and_eq_true] at hn; exact g4 hn.2) g5, out.r⟩
      · refine ihx p rd E D K Kx Kr w h hp a Q hA hd ⟨fun E' D' a' w' g1 g2 g3 g4 g5 => out.n E' D' a' w' g1 g2 (g3.sub (fun t ht => List.mem_append.2 (.inl ht))) (fun hn => by simp only [noRng, Bool.and_eq_true] at hn; exact g4 hn.1) g5,
          fun id E' D' a' w' g1 g2 g3 g4 g5 => out.x id E' D' a' w' g1 g2 (g3.sub (fun t ht => List.mem_append.2 (.inl ht))) (fun hn => by simp only [noRng, Bool.and_eq_true] at hn; exact g4 hn.1) g5, out.r⟩
    cases ann with
    | two p q =>
      simp only [annOk, Bool.and_eq_true] at hok
      exact core p q K hok.1 hok.2 out h
    | join mods outs b =>
      cases b with
      | two p q =>
        simp only [annOk, Bool.and_eq_true] at hok
        obtain ⟨⟨⟨⟨h1, h2⟩, h3⟩, h4⟩, h5⟩ := hok
        have hnr : noRng (.cond cnd x y) = true := by simp [noRng, h4, h5]
        have hh := h (fun x' w => MeetP C mods outs E a (noRng (.cond cnd x y)) (dsts (.cond cnd x y)) (fun a' w' => Q .normal a' w') x' D w)
          (fun x' w hk a' g1 g2 g3 g4 => out.n _ D a' w g1 g2 g3 g4 hk)
        refine core p q _ h1 h2 ⟨fun E' D' a' w' g1 g2 g3 g4 g5 => ?_, out.x, out.r⟩ hh
        exact meet_use hA (mods_sub h3) g1 ((g4 hnr).trans hd) g3 g4 g5
      | _ => exact h.elim
    | joinD mods outs b =>
      cases b with
      | two p q =>
        simp only [annOk, Bool.and_eq_true] at hok
        obtain ⟨⟨h1, h2⟩, h3⟩ := hok
        have hh := h (fun x' D w => MeetP C mods outs E a (noRng (.cond cnd x y)) (dsts (.cond cnd x y)) (fun a' w' => Q .normal a' w') x' D w)
          (fun x' D' w hk a' g1 g2 g3 g4 => out.n _ D' a' w g1 g2 g3 g4 hk)
        refine core p q _ h1 h2 ⟨fun E' D' a' w' g1 g2 g3 g4 g5 => ?_, out.x, out.r⟩ hh
        exact meet_use hA (mods_sub h3) g1 g2 g3 g4 g5
      | _ => exact h.elim
    | _ => exact h.elim
  | block id x ih =>
    intro ann rd E D K Kx Kr w h hok a Q hA hd out
    have core : ∀ (p : Ann) (K : Kt), annOk C.tb x p = true → Outs C (dsts (.block id x)) (noRng (.block id x)) a K Kx Kr Q →
        interp C x p rd E D K (fun j E D w => match Nat.beq j id with | true => K E D w | false => Kx j E D w) Kr w → (Code.block id x).wpIn (fw rd) 0 P Q a w := by
      intro p K hp out h
      refine wpIn_block (ih p rd E D K _ Kr w h hp a _ hA hd ⟨out.n, fun j E' D' a' w' g1 g2 g3 g4 g5 => ?_, out.r⟩)
      by_cases hj : j = id
      · subst hj
        simp only [Exit.inBlock, if_true]
        have : Nat.beq j j = true := Nat.beq_refl j
        rw [this] at g5
        exact out.n E' D' a' w' g1 g2 g3 g4 g5
      · simp only [Exit.inBlock, if_neg hj]
        have : Nat.beq j id = false := by
          cases hb : Nat.beq j id with
          | false => rfl
          | true => exact absurd (Nat.eq_of_beq_eq_true hb) hj
        rw [this] at g5
        exact out.x j E' D' a' w' g1 g2 g3 g4 g5
    cases ann with
    | one p => exact core p K hok out h
    | join mods outs b =>
      cases b with
      | one p =>
        simp only [annOk, Bool.and_eq_true] at hok
        obtain ⟨⟨h1, h3⟩, h4⟩ := hok
        have hh := h (fun x' w => MeetP C mods outs E a (noRng (.block id x)) (dsts (.block id x)) (fun a' w' => Q .normal a' w') x' D w)
          (fun x' w hk a' g1 g2 g3 g4 => out.n _ D a' w g1 g2 g3 g4 hk)
        refine core p _ h1 ⟨fun E' D' a' w' g1 g2 g3 g4 g5 => ?_, out.x, out.r⟩ hh
        exact meet_use hA (mods_sub h3) g1 ((g4 h4).trans hd) g3 g4 g5
      | _ => exact h.elim
    | joinD mods outs b =>
      cases b with
      | one p =>
        simp only [annOk, Bool.and_eq_true] at hok
        have hh := h (fun x' D w => MeetP C mods outs E a (noRng (.block id x)) (dsts (.block id x)) (fun a' w' => Q .normal a' w') x' D w)
          (fun x' D' w hk a' g1 g2 g3 g4 => out.n _ D' a' w g1 g2 g3 g4 hk)
        refine core p _ hok.1 ⟨fun E' D' a' w' g1 g2 g3 g4 g5 => ?_, out.x, out.r⟩ hh
        exact meet_use hA (mods_sub hok.2) g1 g2 g3 g4 g5
      | _ => exact h.elim
    | _ => exact h.elim
  | loop x ih =>
    intro ann rd E D K Kx Kr w h hok a Q hA hd out
    -- one round, from the head on
    have round : ∀ (mods : List Nat) (p : Ann), annOk C.tb x p = true → (∀ t ∈ dsts x, t ∈ mods) → ∀ (E1 : Env) (D1 : List Nat) (K1 : Kt) (a1 : Act) (w1 : World), Agree E1 a1 → a1.defers = marks D1 → Fr (dsts x) a a1 → (noRng x = true → a1.defers = a.defers) →
        (∀ E' D' a' w', Agree E' a' → a'.defers = marks D' → Fr (dsts x) a a' → (noRng x = true → a'.defers = a.defers) → K1 E' D' w' → LoopP P rd x Q a' w') →
        interp C x p rd E1 D1 K1 Kx Kr w1 → LoopP P rd x Q a1 w1 := by
      intro mods p hp hm E1 D1 K1 a1 w1 hA1 hd1 hF1 hn1 hK1 h1
      refine loopP_of (ih p rd E1 D1 K1 Kx Kr w1 h1 hp a1 _ hA1 hd1 ⟨fun E' D' a' w' g1 g2 g3 g4 g5 => ?_, fun j E' D' a' w' g1 g2 g3 g4 g5 => ?_, out.r⟩)
      · exact hK1 E' D' a' w' g1 g2 (hF1.trans g3) (fun hn => (g4 hn).trans (hn1 hn)) g5
      · exact out.x j E' D' a' w' g1 g2 (hF1.trans g3) (fun hn => (g4 hn).trans (hn1 hn)) g5
    cases ann with
    | loop mods outs p =>
      simp only [annOk, Bool.and_eq_true] at hok
      obtain ⟨⟨h1, h3⟩, h4⟩ := hok
      have hm := mods_sub h3
      have hh := h (fun x' w => MeetP C mods outs E a (noRng x) (dsts x) (fun a' w' => LoopP P rd x Q a' w') x' D w)
        (fun x' w hk a' g1 g2 g3 g4 => round mods p h1 hm _ D _ a' w g1 g2 g3 g4 (fun E' D' a2 w2 k1 k2 k3 k4 k5 => meet_use hA hm k1 ((k4 h4).trans hd) k3 k4 k5) hk)
      exact loop_sound (LoopP P rd x Q) (fun _ _ h => h) (meet_use hA hm hA hd (Fr.refl _ _) (fun _ => rfl) hh)
    | loopD mods outs p =>
      simp only [annOk, Bool.and_eq_true] at hok
      obtain ⟨h1, h3⟩ := hok
      have hm := mods_sub h3
      have hh := h (fun x' D w => MeetP C mods outs E a (noRng x) (dsts x) (fun a' w' => LoopP P rd x Q a' w') x' D w)
        (fun x' D' w hk a' g1 g2 g3 g4 => round mods p h1 hm _ D' _ a' w g1 g2 g3 g4 (fun E' D' a2 w2 k1 k2 k3 k4 k5 => meet_use hA hm k1 k2 k3 k4 k5) hk)
      exact loop_sound (LoopP P rd x Q) (fun _ _ h => h) (meet_use hA hm hA hd (Fr.refl _ _) (fun _ => rfl) hh)
    | _ => exact h.elim
  | rangeFunc f params as_ bd ihas ihbd =>
    intro ann rd E D K Kx Kr w h hok a Q hA hd out
    cases ann with
    | rng ts p q =>
      simp only [annOk, Bool.and_eq_true, beq_iff_eq] at hok
      obtain ⟨⟨⟨ha1, ha2⟩, hsz⟩, hnr⟩ := hok
      obtain ⟨fv, hfv, h⟩ := onO_iff.1 h
      have hfe := hA.eval _ _ hfv
      refine wpIn_rangeFunc fun fn _ => ?_
      -- what a round comes to
      have rounds : ∀ (r : Loop) (l : Nat), r.fn = fn → r.tmps = a.tmps → r.params = params → r.assign = as_ → r.body = bd →
          ∀ (x : ArT C ts) (R : Ending → World → Prop) (w : World), lpIs w l r .ready none →
            interp C as_ p (some l) (updL params.toList (encA C ts x) E) [] (fun E1 _ w1 => lpIs w1 l r .ready none ∧
              interp C bd q (some l) E1 [] (fun _ _ w => rEnd l r none R w) (fun j _ _ w => rEnd l r (some (.exit j)) R w) (fun _ _ w => rEnd l r (some .ret) R w) (w1.putObj l (lpO r .busy none)))
              (fun _ _ _ _ => False) (fun _ _ _ => False) w →
            InvV P (yl l) (encA C ts x).toArray w R := by
        intro r l e1 e2 e3 e4 e5 x R w hl hi
        have hl' : w.heap[l]? = some (.loop { r with state := .ready, pending := none }) := hl
        have hy := run_yield (P := P) (args := (encA C ts x).toArray) hl' (by simp [e3, encA_length, hsz])
        have hAg : Agree (updL params.toList (encA C ts x) E) { tmps := ((r.params.zip (encA C ts x).toArray).foldl (fun tmps (t, a) => tmps.setIfInBounds t a) r.tmps), defers := [] } := by
          have := updL_agree params.toList (encA C ts x) E a.tmps ⟨hA.1, hA.2⟩
          have e : (params.zip (encA C ts x).toArray).foldl (fun tmps (t, a) => tmps.setIfInBounds t a) a.tmps = (params.toList.zip (encA C ts x)).foldl (fun tm (x : Nat × Value) => tm.setIfInBounds x.1 x.2) a.tmps := by
            rw [← Array.foldl_toList]; simp
          rw [e3, e2, e]; exact this
        have hEnd : ∀ (jump : Option Code) (w : World), rEnd l r jump R w → ∃ v w', (Instr.endRound l jump).run P w = .ok v w' ∧ R (.returned v) w' := by
          intro jump w ⟨hb, hR⟩
          have hb' : w.heap[l]? = some (.loop { r with state := .busy, pending := none }) := hb
          refine ⟨_, _, run_endRound jump hb', ?_⟩
          cases jump <;> exact hR
        have hbody : ∀ (E1 : Env) (a1 : Act) (w1 : World), Agree E1 a1 → a1.defers = [] → lpIs w1 l r .ready none →
            interp C bd q (some l) E1 [] (fun _ _ w => rEnd l r none R w) (fun j _ _ w => rEnd l r (some (.exit j)) R w) (fun _ _ w => rEnd l r (some .ret) R w) (w1.putObj l (lpO r .busy none)) →
            ∃ w₂, (Instr.beginRound l).run P w1 = .ok () w₂ ∧ bd.wpIn (Fence.wide.inRound l) 0 P (roundPost P l R) a1 w₂ := by
          intro E1 a1 w1 hA1 hd1 hl1 hi1
          have hl1' : w1.heap[l]? = some (.loop { r with state := .ready, pending := none }) := hl1
          refine ⟨_, run_beginRound hl1' rfl, ?_⟩
          exact ihbd q (some l) E1 [] _ _ _ _ hi1 ha2 a1 (roundPost P l R) hA1 hd1
            ⟨fun E' D' a' w' g1 g2 g3 g4 g5 => hEnd none w' g5, fun j E' D' a' w' g1 g2 g3 g4 g5 => hEnd (some (.exit j)) w' g5, fun E' D' a' w' g1 g2 g5 => hEnd (some .ret) w' g5⟩
        have hround : RoundIn Fence.wide 0 P l r.fn ((r.params.zip (encA C ts x).toArray).foldl (fun tmps (t, a) => tmps.setIfInBounds t a) r.tmps) r.assign r.body w R := by
          refine roundIn_of_wpIn trivial ?_
          rw [e4, e5]
          exact ihas p (some l) _ [] _ _ _ w hi ha1 _ _ hAg rfl
            ⟨fun E' D' a' w' g1 g2 g3 g4 g5 => hbody E' a' w' g1 (g4 hnr) g5.1 g5.2,
             fun _ _ _ _ _ _ _ _ _ g5 => g5.elim, fun _ _ _ _ _ _ g5 => g5.elim⟩
        have hargs : (#[] ++ (encA C ts x).toArray : Array Value) = (encA C ts x).toArray := by simp
        refine ⟨_, _, _, _, ?_, hround⟩
        rw [hargs]; exact hy
      -- the one call and what follows
      have tailP : ∀ (r : Loop) (l : Nat) (D' : List Nat) (mark : List Deferred) (w1 w2 : World), (Instr.enterLoop fn a.tmps params as_ bd (fw rd).round).run P w = .ok (l, mark) w2 →
          mark ++ a.defers = marks D' → (noRng (.rangeFunc f params as_ bd) = true → False) →
          InvC P fv #[yl l] w2 (fun e w3 => e = .returned (.tuple #[]) ∧ ∃ s p, lpIs w3 l r s p ∧ s ≠ .busy ∧
            jumpK p (K E D' (w3.putObj l (lpO r .exhausted p))) (fun j => Kx j E D' (w3.putObj l (lpO r .exhausted p))) (Kr E D' (w3.putObj l (lpO r .exhausted p)))) →
          ∃ (l : Nat) (mark : List Deferred) (w₁ : World) (d : Deferred) (w₁' : World) (f' : FuncId) (args : Array Value) (w₂ : World),
            (Instr.enterLoop fn a.tmps params as_ bd (fw rd).round).run P w = .ok (l, mark) w₁ ∧
            (resolve a.eval (rangeCall f l) 0).run P w₁ = .ok d w₁' ∧
            (∀ f', Target.leads P w₁' d.target d.args = some f' → (fw rd).fn f') ∧
            (invoke d.target d.args).run P w₁' = .ok (.enter f' args) w₂ ∧
            ((fw rd).depth.isSome = true → 1 ≤ 0) ∧
            CallsIn (fw rd) (0 - 1) P f' args w₂ (rangePost (fw rd) 0 P l Q { a with defers := mark ++ a.defers }) := by
        intro r l D' mark w1 w2 hent hmk hno hinv
        unfold InvC at hinv
        split at hinv
        · rename_i g first cap
          obtain ⟨hg, hcall⟩ := hinv
          refine ⟨l, mark, w2, { target := .fn (.func g) cap, args := first ++ #[yl l] }, w2, g, first ++ #[yl l] ++ cap, w2, hent, ?_, fun _ _ => trivial, run_callFunc hg w2, fun hd => (by cases hd), ?_⟩
          · rw [resolve_value (x := f) rfl, hfe]
            have : Array.map a.eval (rangeCall f l).args = #[yl l] := by simp [rangeCall, yl, Act.eval]
            rw [this]; rfl
          · rw [callsIn_fw]
            refine hcall.mono fun e w3 ⟨he, s, p, hl, hs, hj⟩ => ?_
            subst he
            have hl' : w3.heap[l]? = some (.loop { r with state := s, pending := p }) := hl
            refine ⟨p, _, run_endLoop hl' hs, ?_⟩
            have hA' : Agree E { a with defers := mark ++ a.defers } := ⟨hA.1, hA.2⟩
            have hF' : Fr (dsts (.rangeFunc f params as_ bd)) a { a with defers := mark ++ a.defers } := ⟨rfl, fun _ _ => rfl⟩
            unfold jumpK at hj
            split at hj
            · exact out.n E D' _ _ hA' hmk hF' (fun hn => (hno hn).elim) hj
            · exact wpIn_ret (out.r E D' _ _ hA' hmk hj)
            · exact wpIn_exit (out.x _ E D' _ _ hA' hmk hF' (fun hn => (hno hn).elim) hj)
            · exact hj.elim
        · exact hinv.elim
      cases rd with
      | none =>
        have h' := h { state := .ready, pending := none, fn := fn, tmps := a.tmps, params := params, assign := as_, body := bd, defers := w.heap.size }
        simp only [rngB, newB] at h'
        rw [World.size_alloc] at h'
        exact tailP _ _ (w.heap.size :: D) _ w _ (run_enterLoop_outer fn a.tmps params as_ bd) (by rw [hd]; rfl) (fun hn => by simp [noRng] at hn) (h' (rounds _ _ rfl rfl rfl rfl rfl))
      | some l0 =>
        obtain ⟨⟨r0, hr0⟩, _⟩ := h { state := .ready, pending := none, fn := fn, tmps := a.tmps, params := params, assign := as_, body := bd, defers := 0 }
        obtain ⟨_, h'⟩ := h { state := .ready, pending := none, fn := fn, tmps := a.tmps, params := params, assign := as_, body := bd, defers := r0.defers }
        simp only [newB] at h'
        refine tailP _ _ D [] w _ ?_ (by simpa using hd) (fun hn => by simp [noRng] at hn) (h' (rounds _ _ rfl rfl rfl rfl rfl))
        show (Instr.enterLoop fn a.tmps params as_ bd (some l0)).run P w = _
        unfold Instr.enterLoop
        simp only [Sem.run_bind, run_getLoop hr0, run_newObj_alloc, Result.andThen, Sem.run_pure]
        rfl
    | _ => exact h.elim

end Go.Dk

namespace Go.Dk
open Go
set_option linter.unusedSimpArgs false
set_option linter.unusedVariables false

variable {P : Program}

def resE (C : Cfg P) : List ResultVar → Env → (List Value → World → Prop) → World → Prop
  | [], _, K, w => K [] w
  | .tmp t :: r, E, K, w => onO (lkp E t) fun v => resE C r E (fun vs w => K (v :: vs) w) w
  | .cell a t :: r, E, K, w => onO (C.lt t) fun L => onP (lkp E a) fun p => ld L p (fun x w => resE C r E (fun vs w => K (L.enc x :: vs) w) w) w
def resV : List Value → Value
  | [v] => v
  | vs => .tuple vs.toArray
/-- the blocks of the deferred calls are shut -/
def lvD : List Nat → (World → Prop) → World → Prop
  | [], K, w => K w
  | d :: D, K, w => w.heap[d]? = some (.deferred (some [])) ∧ lvD D K (w.putObj d (.deferred none))
def fin (C : Cfg P) (rs : List ResultVar) (R : Value → World → Prop) (E : Env) (D : List Nat) (w : World) : Prop :=
  lvD D (resE C rs E (fun vs w => R (resV vs) w)) w
def E0 (nt : Nat) (args : List Value) : Env := args.map some ++ List.replicate (nt - args.length) none
/-- the formula of a function -/
def fnF (C : Cfg P) (c : Code) (ann : Ann) (rs : List ResultVar) (nt : Nat) (args : List Value) (R : Value → World → Prop) (w : World) : Prop :=
  interp C c ann none (E0 nt args) [] (fin C rs R) (fun _ _ _ _ => False) (fin C rs R) w

theorem resE_run {C : Cfg P} {f : ResultVar → Sem Value} {tmps : Array Value} (hf : ∀ u, f (.tmp u) = pure (tmps.getD u undef)) (hc : ∀ a t, f (.cell a t) = (do loadVar t (← asAddr (tmps.getD a undef)))) {E : Env}
    (hE : ∀ t v, lkp E t = some v → tmps[t]? = some v) : ∀ (rs : List ResultVar) (K : List Value → World → Prop) (w : World), resE C rs E K w → ∃ vs, (rs.mapM f).run P w = .ok vs w ∧ K vs w
  | [], K, w, h => ⟨[], by simp, h⟩
  | .tmp t :: r, K, w, h => by
    obtain ⟨v, hv, h⟩ := onO_iff.1 h
    obtain ⟨vs, h1, h2⟩ := resE_run hf hc hE r _ w h
    refine ⟨v :: vs, ?_, h2⟩
    have : tmps.getD t undef = v := by rw [Array.getD_eq_getD_getElem?, hE t v hv]; rfl
    simp [List.mapM_cons, hf, h1, this]
  | .cell a t :: r, K, w, h => by
    obtain ⟨L, hL, h⟩ := onO_iff.1 h
    unfold onP at h
    split at h
    · rename_i q hq
      obtain ⟨p, hp, h⟩ := onO_iff.1 h
      subst hp
      obtain ⟨x, hx, h⟩ := h
      obtain ⟨vs, h1, h2⟩ := resE_run hf hc hE r _ w h
      refine ⟨L.enc x :: vs, ?_, h2⟩
      have : tmps.getD a undef = .pointer (some p) := by rw [Array.getD_eq_getD_getElem?, hE a _ hq]; rfl
      rw [List.mapM_cons, hc, this]
      simp [asAddr, run_loadVar' (C.ok_lt _ _ hL) x hx, h1]
    · exact h.elim

theorem results_run {C : Cfg P} {fn : Func} {rs : List ResultVar} (hrs : fn.results = rs.toArray) {tmps : Array Value} {E : Env} (hE : ∀ t v, lkp E t = some v → tmps[t]? = some v) {K : Value → World → Prop} {w : World}
    (h : resE C rs E (fun vs w => K (resV vs) w) w) : ∃ v, (results fn tmps).run P w = .ok v w ∧ K v w := by
  obtain ⟨vs, h1, h2⟩ := resE_run (f := fun | .tmp t => pure (tmps.getD t undef) | .cell a t => do loadVar t (← asAddr (tmps.getD a undef))) (fun _ => rfl) (fun _ _ => rfl) hE rs _ w h
  refine ⟨_, ?_, h2⟩
  unfold results
  rw [hrs, List.mapM_toArray]
  simp only [Sem.run_bind, Sem.run_map]
  have h1' := h1
  match vs, h1 with
  | [], h1 => first | (rw [h1]; simp [resV]) | (erw [h1]; simp [resV])
  | [v], h1 => first | (rw [h1]; simp [resV]) | (erw [h1]; simp [resV])
  | u :: v :: r, h1 => first | (rw [h1]; simp [resV]) | (erw [h1]; simp [resV])

theorem leavesM {F : Fence} {C : Cfg P} {fn : Func} {rs : List ResultVar} (hrs : fn.results = rs.toArray) {tmps : Array Value} {E : Env} (hE : ∀ t v, lkp E t = some v → tmps[t]? = some v) {R : Ending → World → Prop} :
    ∀ (D : List Nat) (w : World), lvD D (resE C rs E (fun vs w => R (.returned (resV vs)) w)) w → LeavesInM F 0 P fn tmps R (marks D) .returning w
  | [], w, h => by
    obtain ⟨v, h1, h2⟩ := results_run (K := fun v w => R (.returned v) w) hrs hE h
    exact ⟨v, h1, h2⟩
  | d :: D, w, h => ⟨nofun, .inl ⟨d, _, rfl, run_takeDeferred h.1, leavesM hrs hE D _ h.2⟩⟩

/-- a function's contract -/
theorem calls_of_fnF {C : Cfg P} (hmix : P.follows .mixedOrders = true) {f : FuncId} {fn : Func} {c : Code} {ann : Ann} {rs : List ResultVar} {nt : Nat} {args : List Value} {R : Value → World → Prop} {w : World}
    (hf : P.funcs[f]? = some fn) (hb : fn.body = some c) (hrs : fn.results = rs.toArray) (hnt : fn.ntmps = nt) (hok : annOk C.tb c ann = true)
    (h : fnF C c ann rs nt args R w) : Calls P f args.toArray w (Ret R) := by
  have hA : Agree (E0 nt args) { tmps := args.toArray ++ Array.replicate (fn.ntmps - args.toArray.size) undef, defers := [] } := by
    refine ⟨by simp [E0, hnt], fun t v hv => ?_⟩
    rw [lkp_eq] at hv
    unfold E0 at hv
    by_cases ht : t < args.length
    · rw [List.getElem?_append_left (by simpa using ht)] at hv
      simp only [List.getElem?_map] at hv
      simp only [List.getElem?_eq_getElem ht, Option.map_some, Option.join_some] at hv
      rw [Array.getElem?_append_left (by simpa using ht)]
      simpa [List.getElem?_eq_getElem ht] using hv
    · rw [List.getElem?_append_right (by simpa using ht)] at hv
      simp only [List.getElem?_replicate] at hv
      split at hv <;> simp at hv
  rw [← callsIn_wide (n := 0)]
  refine callsIn_of_wp_marks (F := Fence.wide) hf hb trivial ?_
  have hfin : ∀ E' D' (a' : Act) w', Agree E' a' → a'.defers = marks D' → fin C rs R E' D' w' → LeavesInM (fw none) 0 P fn a'.tmps (Ret R) a'.defers .returning w' := by
    intro E' D' a' w' g1 g2 g5
    rw [g2]
    refine leavesM (C := C) hrs (fun t v hv => g1.2 t v hv) D' w' ?_
    have : ∀ (D : List Nat) (K K' : World → Prop), (∀ w, K w → K' w) → ∀ w, lvD D K w → lvD D K' w := by
      intro D; induction D with
      | nil => exact fun K K' h w hk => h w hk
      | cons d D ih => exact fun K K' h w hk => ⟨hk.1, ih K K' h _ hk.2⟩
    refine this D' _ _ (fun w h => ?_) w' g5
    have mono : ∀ (rs : List ResultVar) (K K' : List Value → World → Prop), (∀ vs w, K vs w → K' vs w) → ∀ w, resE C rs E' K w → resE C rs E' K' w := by
      intro rs; induction rs with
      | nil => exact fun K K' h w hk => h _ w hk
      | cons r rs ih =>
        intro K K' h w hk
        cases r with
        | tmp t => exact onO_mono (fun v hv => ih _ _ (fun vs w hk => h _ w hk) w hv) hk
        | cell a t =>
          refine onO_mono (fun L hL => ?_) hk
          unfold onP at hL ⊢
          split at hL
          · exact onO_mono (fun p ⟨x, hx, hk⟩ => ⟨x, hx, ih _ _ (fun vs w hk => h _ w hk) w hk⟩) hL
          · exact hL.elim
    exact mono rs _ _ (fun vs w hk => ⟨_, rfl, hk⟩) w h
  exact interp_sound (C := C) hmix c ann none (E0 nt args) [] (fin C rs R) _ (fin C rs R) w h hok _ _ hA rfl
    ⟨fun E' D' a' w' g1 g2 _ _ g5 => hfin E' D' a' w' g1 g2 g5, fun _ _ _ _ _ _ _ _ _ g5 => g5.elim, fun E' D' a' w' g1 g2 g5 => hfin E' D' a' w' g1 g2 g5⟩

end Go.Dk

namespace Go.Dk
open Go
set_option linter.unusedSimpArgs false
set_option linter.unusedVariables false

variable {P : Program}

/-- the next of a map: its two ways -/
def mnx (r : Nat) (K0 : World → Prop) (K1 : Value → Value → World → Prop) (w : World) : Prop :=
  (∃ a b d, w.heap[r]? = some (.mapIter none a b d) ∧ K0 w) ∨
  ∃ m es c seen, w.heap[r]? = some (.mapIter (some m) c seen c) ∧ w.heap[m]? = some (.map es c) ∧ (∀ e ∈ es, e.born < c) ∧
    ∀ w1, (w1 = w ∨ w1 = w.drew) →
      ((∀ e ∈ es, e.born ∈ seen) → K0 w1) ∧
      ∀ e ∈ es, e.born ∉ seen → K1 e.key e.val (w1.putObj r (.mapIter (some m) c (seen.push e.born) c))

/-- a store of a value that is not known -/
def stV (n : Nat) (p : Addr) (v : Value) (K : World → Prop) (w : World) : Prop :=
  match decide ((cellsL v).length = n) && (cellsL v).all Value.oneCell' with | true => st p (cellsL v) K w | false => False

/-- a call of a function value of which nothing is known -/
def clW (C : Cfg P) (L : LTy) (v : Value) (vs : List Value) (K : L.α → World → Prop) (w : World) : Prop :=
  match v with
  | .func (.func f) first cap => (match C.fb f with
    | true => cl P L f (first ++ vs.toArray ++ cap) K w
    | false => False)
  | v => clv P L v vs.toArray K w

/-- what is handed back, typed -/
def decK (L : LTy) (K : L.α → World → Prop) (v : Value) (w : World) : Prop := onO (L.dec v) fun x => K x w
theorem ret_decK {L : LTy} {K : L.α → World → Prop} {e : Ending} {w : World} (h : Ret (decK L K) e w) : retK L K e w := by
  obtain ⟨v, he, hv⟩ := h
  obtain ⟨x, hx, hk⟩ := onO_iff.1 hv
  exact ⟨x, by rw [he, L.h_dec _ _ hx], hk⟩
theorem cl_of {C : Cfg P} (hmix : P.follows .mixedOrders = true) {f : FuncId} {fn : Func} {c : Code} {ann : Ann} {rs : List ResultVar} {nt : Nat} {args : List Value} {L : LTy} {K : L.α → World → Prop} {w : World}
    (hf : P.funcs[f]? = some fn) (hb : fn.body = some c) (hrs : fn.results = rs.toArray) (hnt : fn.ntmps = nt) (hok : annOk C.tb c ann = true)
    (h : fnF C c ann rs nt args (decK L K) w) : cl P L f args.toArray K w :=
  (calls_of_fnF hmix hf hb hrs hnt hok h).mono fun e w' h => ret_decK h

/-! ### ints as keys -/
theorem findNow_int {L : LTy} {k : IntKind} (num : L.α → Int) (he : ∀ x, L.enc x = .int k (num x)) (hk : ∀ x y, L.keq x y = (num x == num y)) (x : L.α) : ∀ (es : List MapEntry) (xs pre : List L.α), es.map (·.key) = xs.map L.enc →
      Instr.findNow (.int k) (L.enc x) es pre.length = some (match (es.zipIdx pre.length).find? (fun p => match (pre ++ xs)[p.2]? with | some y => L.keq x y | none => false) with | some (e, j) => some (j, e.val) | none => none) := by
  intro es
  induction es with
  | nil => intro xs pre h; simp [Instr.findNow]
  | cons e r ih =>
    intro xs pre h
    cases xs with
    | nil => simp at h
    | cons y ys =>
      simp only [List.map_cons, List.cons.injEq] at h
      have hk' := h.1
      simp only [Instr.findNow, hk', he, Instr.sameNow, if_true]
      rw [List.zipIdx_cons, List.find?_cons]
      have e1 : (pre ++ y :: ys)[pre.length]? = some y := by simp
      simp only [e1, hk]
      cases hxy : num x == num y with
      | true => simp
      | false =>
        have := ih ys (pre ++ [y]) h.2
        simp only [List.length_append, List.length_singleton, List.append_assoc, List.singleton_append, he, hk] at this
        simpa using this

theorem int_eqv (x y : Int) : (x == y) = true ↔ x = y := by simp
theorem find_int {L : LTy} {k : IntKind} (num : L.α → Int) (he : ∀ x, L.enc x = .int k (num x)) (hk : ∀ x y, L.keq x y = (num x == num y)) {t : TypeId} (h : P.underlying t = some (.int k)) (x : L.α) (es : List MapEntry) (xs : List L.α) (w : World) (hes : es.map (·.key) = xs.map L.enc) :
    (Instr.findKey t (L.enc x) es).run P w = .ok (match es.zipIdx.find? (fun p => match xs[p.2]? with | some y => L.keq x y | none => false) with | some (e, i) => some (i, e.val) | none => none) w := by
  unfold Instr.findKey
  simp only [Sem.run_bind, run_underlying h, Result.andThen_ok]
  have := findNow_int num he hk x es xs [] hes
  simp only [List.length_nil, List.nil_append] at this
  rw [this]
  rfl
theorem sameBits_int (k : IntKind) (x : Int) (n : Nat) : Instr.sameBits n (.int k x) (.int k x) = true := by
  cases n <;> simp [Instr.sameBits]
theorem chk_int {t : TypeId} {k : IntKind} (h : P.underlying t = some (.int k)) (e : Bool) (n : Nat) (x : Int) (w : World) : (Instr.checkKey e (n + 1) t (.int k x)).run P w = .ok () w := by
  unfold Instr.checkKey
  simp only [Sem.run_bind, run_underlying h, Result.andThen_ok]
  rfl

theorem keyOk_int {t : TypeId} {k : IntKind} (h : P.underlying t = some (.int k)) : KeyOk P t (lInt k) where
  eqv x y := int_eqv x y
  chk e x w := chk_int h e 9999 x w
  find x es xs w he := find_int (L := lInt k) (fun n => n) (fun _ => rfl) (fun _ _ => rfl) h x es xs w he
  bits x := sameBits_int k x 10000

/-! ### structs of ints -/
structure ISt (P : Program) (t : TypeId) (L : LTy) where
  fs : Array Field
  hu : P.underlying t = some (.struct fs)
  hp : P.stoodInHeld t = false
  hg : P.eqGuardType P.depth t = false
  vals : L.α → List Int
  h_enc : ∀ x, L.enc x = .agg ((vals x).map fun n => Value.int .i64 n).toArray
  h_len : ∀ x, (vals x).length = fs.size
  h_keq : ∀ x y, L.keq x y = (vals x == vals y)
  h_inj : ∀ x y, vals x = vals y → x = y
  h_fs : (fs.toList.zipIdx.all fun p => p.1.name != "_" && p.1.offset == p.2 && (match P.underlying p.1.type with | some (.int .i64) => true | _ => false)) = true

theorem part_int {t : TypeId} {k : IntKind} (h : P.underlying t = some (.int k)) {xs : Array Value} {i : Nat} {v : Value} (hv : xs[i]? = some v) (w : World) : (part t xs i).run P w = .ok v w := by
  have : (isAgg t).run P w = .ok false w := by simp [isAgg, Sem.run_bind, run_underlying h]
  simp [part, Sem.run_bind, this, hv]

theorem eqF_ints (d : Nat) (xs ys : List Int) (w : World) : ∀ (fs : List Field) (i : Nat), (fs.zipIdx i).all (fun p => p.1.name != "_" && p.1.offset == p.2 && (match P.underlying p.1.type with | some (.int .i64) => true | _ => false)) = true →
    fs.length + i = xs.length → fs.length + i = ys.length →
    (Op.eqFields (d + 1) (xs.map fun n => Value.int .i64 n).toArray (ys.map fun n => Value.int .i64 n).toArray fs).run P w = .ok (xs.drop i == ys.drop i) w
  | [], i, _, h1, h2 => by
    simp only [List.length_nil, Nat.zero_add] at h1 h2
    rw [List.drop_of_length_le (by omega), List.drop_of_length_le (by omega)]
    simp [Op.eqFields]
  | f :: r, i, h, h1, h2 => by
    rw [List.zipIdx_cons, List.all_cons] at h
    simp only [Bool.and_eq_true, bne_iff_ne, ne_eq, beq_iff_eq] at h
    obtain ⟨⟨⟨hn, ho⟩, hu⟩, hr⟩ := h
    have hu' : P.underlying f.type = some (.int .i64) := by
      split at hu
      · assumption
      · cases hu
    simp only [List.length_cons] at h1 h2
    have l1 : i < xs.length := by omega
    have l2 : i < ys.length := by omega
    have p1 := part_int hu' (xs := (xs.map fun n => Value.int .i64 n).toArray) (i := i) (v := .int .i64 xs[i]) (by simp [l1]) w
    have p2 := part_int hu' (xs := (ys.map fun n => Value.int .i64 n).toArray) (i := i) (v := .int .i64 ys[i]) (by simp [l2]) w
    have ih := eqF_ints d xs ys w r (i + 1) hr (by omega) (by omega)
    rw [Op.eqFields]
    simp only [ne_eq, hn, not_false_eq_true, if_true, ho, Sem.run_bind, p1, p2, Result.andThen_ok, run_equalIn_int w d f.type .i64 .i64 xs[i] ys[i] hu']
    rw [List.drop_eq_getElem_cons l1, List.drop_eq_getElem_cons l2]
    cases hxy : xs[i] == ys[i] with
    | true => 
      simp only [Bool.not_true, Bool.false_eq_true, if_false, ih]
      simp only [List.cons_beq_cons, hxy, Bool.true_and]
    | false =>
      simp only [Bool.not_false, if_true, Sem.run_pure]
      simp only [List.cons_beq_cons, hxy, Bool.false_and]

theorem ISt.equal {t : TypeId} {L : LTy} (I : ISt P t L) (x y : L.α) (w : World) : (Op.equal t (L.enc x) (L.enc y)).run P w = .ok (L.keq x y) w := by
  have hf : P.fieldsOf t = I.fs := by simp [Program.fieldsOf, I.hu]
  rw [I.h_enc, I.h_enc, I.h_keq]
  show (Op.equalIn Op.maxDepth t _ _).run P w = _
  rw [show Op.maxDepth = (9998 + 1) + 1 from rfl]
  rw [run_equalIn_struct (P := P) w _ t _ _ (by rw [hf]; exact I.hu) I.hp, hf]
  have := eqF_ints (P := P) 9998 (I.vals x) (I.vals y) w I.fs.toList 0 I.h_fs (by simp [I.h_len]) (by simp [I.h_len])
  simpa using this

theorem ISt.eqOk {t : TypeId} {L : LTy} (I : ISt P t L) : EqOk P t L := by
  intro x y w
  refine ⟨I.equal x y w, fun op a b => ?_⟩
  rw [I.h_enc, I.h_enc]
  exact run_eqGuard_agg w op t a b _ _ I.hg

theorem checkF_ints (e : Bool) (n : Nat) (xs : List Int) (w : World) : ∀ (fs : List Field) (i : Nat), (fs.zipIdx i).all (fun p => p.1.name != "_" && p.1.offset == p.2 && (match P.underlying p.1.type with | some (.int .i64) => true | _ => false)) = true →
    fs.length + i = xs.length →
    (forIn fs PUnit.unit fun (f : Field) (_ : PUnit) => (if f.name ≠ "_" then do
        let a ← part f.type (xs.map fun n => Value.int .i64 n).toArray f.offset
        Instr.checkKey e (n + 1) f.type a
        pure (ForInStep.yield PUnit.unit)
      else pure (ForInStep.yield PUnit.unit) : Sem (ForInStep PUnit))).run P w = .ok PUnit.unit w
  | [], i, _, _ => by simp
  | f :: r, i, h, h1 => by
    rw [List.zipIdx_cons, List.all_cons] at h
    simp only [Bool.and_eq_true, bne_iff_ne, ne_eq, beq_iff_eq] at h
    obtain ⟨⟨⟨hn, ho⟩, hu⟩, hr⟩ := h
    have hu' : P.underlying f.type = some (.int .i64) := by
      split at hu
      · assumption
      · cases hu
    simp only [List.length_cons] at h1
    have l1 : i < xs.length := by omega
    have p1 := part_int hu' (xs := (xs.map fun n => Value.int .i64 n).toArray) (i := i) (v := .int .i64 xs[i]) (by simp [l1]) w
    have ih := checkF_ints e n xs w r (i + 1) hr (by omega)
    rw [List.forIn_cons]
    simp only [ne_eq, hn, not_false_eq_true, if_true, ho, Sem.run_bind, p1, Result.andThen_ok, chk_int hu' e n xs[i] w, Sem.run_pure]
    exact ih

theorem ISt.keyOk {t : TypeId} {L : LTy} (I : ISt P t L) : KeyOk P t L where
  eqv x y := by
    rw [I.h_keq]
    exact ⟨fun h => I.h_inj _ _ (by simpa using h), fun h => by rw [h]; simp⟩
  chk e x w := by
    rw [I.h_enc]
    show (Instr.checkKey e (9998 + 1 + 1) t _).run P w = _
    unfold Instr.checkKey
    simp only [Sem.run_bind, run_underlying I.hu, Result.andThen_ok]
    rw [← Array.forIn_toList]
    have := checkF_ints (P := P) e 9998 (I.vals x) w I.fs.toList 0 I.h_fs (by simp [I.h_len])
    rw [show (9998 + 1 : Nat) = 9999 from rfl] at this
    rw [this]; simp
  find x es xs w he := by
    rw [run_findKey_eq w (by rw [I.hu])]
    have gen : ∀ (es : List MapEntry) (xs pre : List L.α), es.map (·.key) = xs.map L.enc →
        (Instr.findAsking t (L.enc x) es pre.length).run P w = .ok (match (es.zipIdx pre.length).find? (fun p => match (pre ++ xs)[p.2]? with | some y => L.keq x y | none => false) with | some (e, j) => some (j, e.val) | none => none) w := by
      intro es
      induction es with
      | nil => intro xs pre h; simp [Instr.findAsking]
      | cons e r ih =>
        intro xs pre h
        cases xs with
        | nil => simp at h
        | cons y ys =>
          simp only [List.map_cons, List.cons.injEq] at h
          have hk := h.1
          rw [Instr.findAsking]
          simp only [Sem.run_bind, hk, I.equal, Result.andThen_ok]
          rw [List.zipIdx_cons, List.find?_cons]
          have e1 : (pre ++ y :: ys)[pre.length]? = some y := by simp
          simp only [e1]
          cases hxy : L.keq x y with
          | true => simp
          | false =>
            have := ih ys (pre ++ [y]) h.2
            simp only [List.length_append, List.length_singleton, List.append_assoc, List.singleton_append] at this
            simpa using this
    have := gen es xs [] he
    simp only [List.length_nil, List.nil_append] at this
    rw [this]
    rfl
  bits x := by
    rw [I.h_enc]
    show Instr.sameBits (9999 + 1) _ _ = true
    simp only [Instr.sameBits, beq_self_eq_true, Bool.true_and]
    generalize I.vals x = l
    induction l with
    | nil => rfl
    | cons a r ih => simpa [sameBits_int] using ih

end Go.Dk

namespace Go.Dk
open Go
set_option linter.unusedSimpArgs false
set_option linter.unusedVariables false
universe u

variable {P : Program}

def look {α : Type u} : List (Nat × α) → Nat → Option α
  | [], _ => none
  | (k, a) :: r, t => match Nat.beq k t with | true => some a | false => look r t
theorem look_mem {α : Type u} : ∀ {l : List (Nat × α)} {t : Nat} {a : α}, look l t = some a → (t, a) ∈ l
  | [], _, _, h => by cases h
  | (k, b) :: r, t, a, h => by
    unfold look at h
    split at h
    · rename_i hb; cases h; rw [Nat.eq_of_beq_eq_true hb]; exact List.mem_cons_self
    · exact List.mem_cons_of_mem _ (look_mem h)
def memB : List Nat → Nat → Bool
  | [], _ => false
  | k :: r, t => match Nat.beq k t with | true => true | false => memB r t
theorem memB_mem : ∀ {l : List Nat} {t : Nat}, memB l t = true → t ∈ l
  | [], _, h => by cases h
  | k :: r, t, h => by
    unfold memB at h
    split at h
    · rename_i hb; rw [Nat.eq_of_beq_eq_true hb]; exact List.mem_cons_self
    · exact List.mem_cons_of_mem _ (memB_mem h)

theorem ok_tbL {l : List (Nat × TB)} (h : l.all (fun p => tbB P p.1 p.2) = true) (t : Nat) : TbOk P t ((look l t).getD .none) := by
  cases hl : look l t with
  | none => exact trivial
  | some b => exact tbB_ok (List.all_eq_true.1 h _ (look_mem hl))
def szB (P : Program) (t n : Nat) : Bool := match P.info? t with | some i => Nat.beq i.size n | none => false
theorem ok_szL {l : List (Nat × Nat)} (h : l.all (fun p => szB P p.1 p.2) = true) (t n : Nat) (hl : look l t = some n) : ∃ i, P.info? t = some i ∧ i.size = n := by
  have := List.all_eq_true.1 h _ (look_mem hl)
  unfold szB at this
  split at this
  · rename_i i hi; exact ⟨i, hi, Nat.eq_of_beq_eq_true this⟩
  · cases this
def byB (P : Program) (t n : Nat) : Bool := match P.info? t with | some i => Nat.beq i.bytes n | none => false
theorem ok_byL {l : List (Nat × Nat)} (h : l.all (fun p => byB P p.1 p.2) = true) (t n : Nat) (hl : look l t = some n) : ∃ i, P.info? t = some i ∧ i.bytes = n := by
  have := List.all_eq_true.1 h _ (look_mem hl)
  unfold byB at this
  split at this
  · rename_i i hi; exact ⟨i, hi, Nat.eq_of_beq_eq_true this⟩
  · cases this
theorem ok_zlL {l : List (Nat × List Value)} (h : l.all (fun p => zlkB P p.1 p.2) = true) (t : Nat) (z : List Value) (hl : look l t = some z) : ZlOk P t z :=
  zlkB_ok (List.all_eq_true.1 h _ (look_mem hl))
theorem ok_ltL {l : List (Nat × LTy)} (h : l.all (fun p => ltB P p.1 p.2) = true) (t : Nat) (L : LTy) (hl : look l t = some L) : LtOk P t L :=
  ltB_ok (List.all_eq_true.1 h _ (look_mem hl))
def zvB : Value → Value → Bool
  | .agg a, .agg b => zlB a.toList b.toList
  | a, b => zB a b
theorem zvB_eq {a b : Value} (h : zvB a b = true) : a = b := by
  unfold zvB at h
  split at h
  · rename_i a b
    have := zlB_eq h
    rw [Array.toList_inj.1 this]
  · exact zB_eq h
def zrB (P : Program) (t : Nat) (L : Option LTy) : Bool := match P.info? t, L with | some i, some L => (match i.zero with | some v => zvB v (L.enc L.zero) | none => false) | _, _ => false
theorem ok_zrL {l : List Nat} {lt : Nat → Option LTy} (h : l.all (fun t => zrB P t (lt t)) = true) (t : Nat) (L : LTy) (ht : memB l t = true) (hl : lt t = some L) : ∃ i, P.info? t = some i ∧ i.zero = some (L.enc L.zero) := by
  have := List.all_eq_true.1 h _ (memB_mem ht)
  unfold zrB at this
  rw [hl] at this
  split at this
  · rename_i i L' hi hL
    cases hL
    split at this
    · rename_i v hv; exact ⟨i, hi, by rw [hv, zvB_eq this]⟩
    · cases this
  · cases this
def fbB (P : Program) (f : Nat) : Bool := match P.funcs[f]? with | some fn => fn.body.isSome && !(fn.name == "runtime.NumGoroutine") | none => false
theorem ok_fbL {l : List Nat} (h : l.all (fun t => fbB P t) = true) (f : Nat) (hf : memB l f = true) : ∃ fn c, P.funcs[f]? = some fn ∧ fn.body = some c ∧ (fn.name == "runtime.NumGoroutine") = false := by
  have := List.all_eq_true.1 h _ (memB_mem hf)
  unfold fbB at this
  split at this
  · rename_i fn hfn
    simp only [Bool.and_eq_true, Bool.not_eq_true'] at this
    obtain ⟨c, hc⟩ := Option.isSome_iff_exists.1 this.1
    exact ⟨fn, c, hfn, hc, this.2⟩
  · cases this

end Go.Dk

namespace Go.Dk
open Go Go.RowKit
set_option linter.unusedSimpArgs false
set_option linter.unusedVariables false

/-! ### what changes -/
/-- of the blocks that were there, only those of S are changed -/
structure Ch (S : List Nat) (w w' : World) : Prop where
  os : w'.os = w.os
  tape : w'.tape = w.tape
  output : w'.output = w.output
  size : w.heap.size ≤ w'.heap.size
  block : ∀ k, k < w.heap.size → k ∉ S → w'.heap[k]? = w.heap[k]?

theorem Ch.refl (S : List Nat) (w : World) : Ch S w w := ⟨rfl, rfl, rfl, Nat.le_refl _, fun _ _ _ => rfl⟩
theorem Ch.trans {S : List Nat} {a b c : World} (h : Ch S a b) (k : Ch S b c) : Ch S a c :=
  ⟨k.os.trans h.os, k.tape.trans h.tape, k.output.trans h.output, Nat.le_trans h.size k.size, fun i hi hs => (k.block i (Nat.lt_of_lt_of_le hi h.size) hs).trans (h.block i hi hs)⟩
/-- what is changed besides was not there -/
theorem Ch.trans' {S S' : List Nat} {a b c : World} (h : Ch S a b) (k : Ch S' b c) (hs : ∀ x ∈ S', x ∈ S ∨ a.heap.size ≤ x) : Ch S a c :=
  ⟨k.os.trans h.os, k.tape.trans h.tape, k.output.trans h.output, Nat.le_trans h.size k.size, fun i hi hi' => (k.block i (Nat.lt_of_lt_of_le hi h.size) (fun hx => by rcases hs i hx with h1 | h1; exact hi' h1; omega)).trans (h.block i hi hi')⟩
theorem Ch.mono {S S' : List Nat} {a b : World} (h : Ch S a b) (hs : ∀ x ∈ S, x ∈ S' ∨ a.heap.size ≤ x) : Ch S' a b :=
  ⟨h.os, h.tape, h.output, h.size, fun i hi hi' => h.block i hi (fun hx => by rcases hs i hx with h1 | h1; exact hi' h1; omega)⟩
theorem Ch.below {a b : World} (h : Ch [] a b) : Below a.heap.size a b := ⟨h.os, h.tape, h.output, h.size, fun k hk => h.block k hk (by simp)⟩

theorem Ch.alloc {S : List Nat} {w : World} (o : Obj) : Ch S w (w.alloc o) :=
  ⟨rfl, rfl, rfl, by simp, fun k hk _ => by
    show (w.heap.push o)[k]? = _
    rw [Array.getElem?_push_lt hk, Array.getElem?_eq_getElem hk]⟩
theorem Ch.drew {S : List Nat} {w : World} : Ch S w w.drew := ⟨rfl, rfl, rfl, Nat.le_refl _, fun _ _ _ => rfl⟩
theorem Ch.put {S : List Nat} {w : World} (b : Nat) (o : Obj) (hb : b ∈ S ∨ w.heap.size ≤ b) : Ch S w (w.putObj b o) :=
  ⟨rfl, rfl, rfl, by simp, fun k hk hs => World.putObj_heap_other (fun e => by subst e; rcases hb with h | h; exact hs h; omega)⟩
theorem Ch.put' {S : List Nat} {a w : World} (h : Ch S a w) (b : Nat) (o : Obj) (hb : b ∈ S ∨ a.heap.size ≤ b) : Ch S a (w.putObj b o) :=
  h.trans' (S' := [b]) (Ch.put b o (.inl (by simp))) (by simpa using hb)
theorem Ch.alloc' {S : List Nat} {a w : World} (h : Ch S a w) (o : Obj) : Ch S a (w.alloc o) := h.trans (Ch.alloc o)
theorem Ch.drew' {S : List Nat} {a w : World} (h : Ch S a w) : Ch S a w.drew := h.trans Ch.drew

theorem hp_new (w : World) (o : Obj) : (w.alloc o).heap[w.heap.size]? = some o := World.alloc_heap_new w o
theorem hp_alloc {w : World} {o o' : Obj} {k : Nat} (h : w.heap[k]? = some o') : (w.alloc o).heap[k]? = some o' := by
  have hk : k < w.heap.size := by
    rcases Nat.lt_or_ge k w.heap.size with h1 | h1
    · exact h1
    · rw [Array.getElem?_eq_none h1] at h; cases h
  rw [(Ch.alloc (S := []) o).block k hk (by simp), h]
theorem hp_put_eq {w : World} {o o' : Obj} {k : Nat} (h : w.heap[k]? = some o') : (w.putObj k o).heap[k]? = some o := by
  have hk : k < w.heap.size := by
    rcases Nat.lt_or_ge k w.heap.size with h1 | h1
    · exact h1
    · rw [Array.getElem?_eq_none h1] at h; cases h
  exact World.putObj_heap_same hk
theorem hp_put_ne {w : World} {o o' : Obj} {k b : Nat} (h : w.heap[k]? = some o') (hn : k ≠ b) : (w.putObj b o).heap[k]? = some o' := by rw [World.putObj_heap_other hn, h]
theorem hp_drew {w : World} {o' : Obj} {k : Nat} (h : w.heap[k]? = some o') : w.drew.heap[k]? = some o' := h
theorem hp_ch {S : List Nat} {w w' : World} {o' : Obj} {k : Nat} (hc : Ch S w w') (h : w.heap[k]? = some o') (hn : k ∉ S) : w'.heap[k]? = some o' := by
  have hk : k < w.heap.size := by
    rcases Nat.lt_or_ge k w.heap.size with h1 | h1
    · exact h1
    · rw [Array.getElem?_eq_none h1] at h; cases h
  rw [hc.block k hk hn, h]
theorem hp_lt {w : World} {o' : Obj} {k : Nat} (h : w.heap[k]? = some o') : k < w.heap.size := by
  rcases Nat.lt_or_ge k w.heap.size with h1 | h1
  · exact h1
  · rw [Array.getElem?_eq_none h1] at h; cases h

/-! ### steps -/
theorem newB_i {o : Obj} {K : Nat → World → Prop} {w : World} (h : K w.heap.size (w.alloc o)) : newB o K w := h
theorem ld_i {L : LTy} {p : Addr} {K : L.α → World → Prop} {w : World} {l : Array Value} {e : TypeId} {fz : Nat × Nat} (x : L.α) (h : w.heap[p.block]? = some (.cells l e fz)) (hs : p.spot = none)
    (hc : (l.toList.drop p.off).take (L.cells x).length = L.cells x) (ho : p.off + (L.cells x).length ≤ l.size) (hk : K x w) : ld L p K w := ⟨x, ⟨hs, l, e, fz, h, hc, ho⟩, hk⟩
theorem st_i {p : Addr} {cs : List Value} {K : World → Prop} {w : World} {l : Array Value} {e : TypeId} (h : w.heap[p.block]? = some (.cells l e)) (hs : p.spot = none) (ho : p.off + cs.length ≤ l.size)
    (hk : K (w.putObj p.block (.cells (wrt l.toList p.off cs).toArray e))) : st p cs K w := ⟨l, e, h, hs, ho, hk⟩
theorem mget_i {LK LV : LTy} {b : Nat} {x : LK.α} {K : LV.α → Bool → World → Prop} {w : World} {l : List (Ent LK.α LV.α)} {c : Nat} (h : mapIs LK LV w b l c)
    (hk : K ((mfind LK.keq x l).getD LV.zero) (mfind LK.keq x l).isSome w) : mget LK LV (some b) x K w := ⟨l, c, h, hk⟩
theorem mput_i {LK LV : LTy} {b : Nat} {x : LK.α} {v : LV.α} {K : World → Prop} {w : World} {l : List (Ent LK.α LV.α)} {c : Nat} (h : mapIs LK LV w b l c)
    (hk : K (w.putObj b (mapObj LK LV (mset LK.keq x v c l) (mclk LK.keq x c l)))) : mput LK LV (some b) x v K w := ⟨b, l, c, rfl, h, hk⟩
theorem mdl_i {LK LV : LTy} {b : Nat} {x : LK.α} {K : World → Prop} {w : World} {l : List (Ent LK.α LV.α)} {c : Nat} (h : mapIs LK LV w b l c)
    (hk : K (w.putObj b (mapObj LK LV (mdel LK.keq x l) c))) : mdl LK LV (some b) x K w := .inr ⟨b, l, c, rfl, h, hk⟩
end Go.Dk

namespace Go.Dk
open Go Go.RowKit
set_option linter.unusedSimpArgs false
set_option linter.unusedVariables false

/-- the elements of a slice -/
def slAt (L : LTy) (w : World) (s : Sl) (xs : List L.α) : Prop :=
  s.len = xs.length ∧ s.len ≤ s.cap ∧
  ((s.a = none ∧ s.cap = 0) ∨ ∃ b off l e fz, s.a = some ⟨b, off, none⟩ ∧ w.heap[b]? = some (.cells l e fz) ∧ off + s.cap * L.n ≤ l.size ∧ (l.toList.drop off).take (s.len * L.n) = xs.flatMap L.cells)
/-- .. of one's own -/
def slOwn (L : LTy) (w : World) (s : Sl) (xs : List L.α) : Prop :=
  s.len = xs.length ∧ s.len ≤ s.cap ∧
  ((s.a = none ∧ s.cap = 0) ∨ ∃ b off l e, s.a = some ⟨b, off, none⟩ ∧ w.heap[b]? = some (.cells l e) ∧ off + s.cap * L.n ≤ l.size ∧ (l.toList.drop off).take (s.len * L.n) = xs.flatMap L.cells)
def blks (s : Sl) : List Nat := match s.a with | some p => [p.block] | none => []
/-- it lies where nothing was -/
def fresh (n : Nat) (s : Sl) : Prop := ∀ p, s.a = some p → n ≤ p.block

variable {L : LTy} {w w' : World} {s x : Sl} {xs ys : List L.α}

theorem slOwn.at (h : slOwn L w s xs) : slAt L w s xs := by
  obtain ⟨h1, h2, h3⟩ := h
  refine ⟨h1, h2, h3.imp id ?_⟩
  rintro ⟨b, off, l, e, h4, h5, h6, h7⟩
  exact ⟨b, off, l, e, (0, 0), h4, h5, h6, h7⟩
theorem slOwn.nil : slOwn L w ⟨none, 0, 0⟩ [] := ⟨rfl, Nat.le_refl _, .inl ⟨rfl, rfl⟩⟩
theorem slAt.ch {S : List Nat} (h : slAt L w s xs) (hc : Ch S w w') (hb : ∀ k ∈ blks s, k ∉ S) : slAt L w' s xs := by
  obtain ⟨h1, h2, h3⟩ := h
  refine ⟨h1, h2, h3.imp id ?_⟩
  rintro ⟨b, off, l, e, fz, h4, h5, h6, h7⟩
  exact ⟨b, off, l, e, fz, h4, hp_ch hc h5 (hb b (by simp [blks, h4])), h6, h7⟩
theorem slOwn.ch {S : List Nat} (h : slOwn L w s xs) (hc : Ch S w w') (hb : ∀ k ∈ blks s, k ∉ S) : slOwn L w' s xs := by
  obtain ⟨h1, h2, h3⟩ := h
  refine ⟨h1, h2, h3.imp id ?_⟩
  rintro ⟨b, off, l, e, h4, h5, h6, h7⟩
  exact ⟨b, off, l, e, h4, hp_ch hc h5 (hb b (by simp [blks, h4])), h6, h7⟩
theorem slAt.lt (h : slAt L w s xs) : ∀ k ∈ blks s, k < w.heap.size := by
  obtain ⟨h1, h2, h3⟩ := h
  intro k hk
  rcases h3 with ⟨h3, _⟩ | ⟨b, off, l, e, fz, h4, h5, h6, h7⟩
  · simp [blks, h3] at hk
  · simp [blks, h4] at hk; subst hk; exact hp_lt h5

theorem flat_len : ∀ (xs : List L.α), (xs.flatMap L.cells).length = xs.length * L.n
  | [] => by simp
  | x :: r => by simp [flat_len r, L.h_len, Nat.add_mul]; omega
theorem flat_get : ∀ (xs : List L.α) (i : Nat) (x : L.α), xs[i]? = some x → ((xs.flatMap L.cells).drop (i * L.n)).take L.n = L.cells x
  | [], i, x, h => by simp at h
  | y :: r, 0, x, h => by simp at h; subst h; simp; rw [List.take_append_of_le_length (by rw [L.h_len]; exact Nat.le_refl _), List.take_of_length_le (by rw [L.h_len]; exact Nat.le_refl _)]
  | y :: r, i + 1, x, h => by
    rw [List.flatMap_cons, Nat.add_mul, Nat.one_mul, Nat.add_comm, ← List.drop_drop]
    rw [show L.n = (L.cells y).length from (L.h_len y).symm, List.drop_left]
    rw [L.h_len y]
    exact flat_get r i x (by simpa using h)

/-- an element's cells -/
theorem slAt.has (h : slAt L w s xs) {i : Nat} {y : L.α} (hi : xs[i]? = some y) (hn : 0 < L.n) : ∃ p, s.a = some p ∧ has w (p.add (i * L.n)) (L.cells y) := by
  obtain ⟨h1, h2, h3⟩ := h
  have hlt : i < xs.length := by
    rcases Nat.lt_or_ge i xs.length with h | h
    · exact h
    · rw [List.getElem?_eq_none h] at hi; cases hi
  have hm : (i + 1) * L.n ≤ s.len * L.n := Nat.mul_le_mul_right _ (by omega)
  rw [Nat.add_mul, Nat.one_mul] at hm
  rcases h3 with ⟨h3, h4⟩ | ⟨b, off, l, e, fz, h4, h5, h6, h7⟩
  · omega
  · refine ⟨_, h4, ?_⟩
    rw [Addr.add_lit]
    refine ⟨rfl, l, e, fz, h5, ?_, ?_⟩
    · have := flat_get xs i y hi
      rw [← h7, List.drop_take, List.drop_drop, List.take_take] at this
      rw [L.h_len, ← this]
      show (List.drop (off + i * L.n) l.toList).take L.n = _
      congr 1
      omega
    · rw [L.h_len]
      have : s.len * L.n ≤ s.cap * L.n := Nat.mul_le_mul_right _ h2
      show off + i * L.n + L.n ≤ l.size
      omega

/-- reading an element -/
theorem idx_i {k : Nat} {i : Int} {y : L.α} {K : L.α → World → Prop} (h : slAt L w s xs) (hn : L.n = k) (h0 : 0 < k) (hi : 0 ≤ i) (hy : xs[i.toNat]? = some y) (hk : K y w) :
    (0 : Int) ≤ i ∧ i < ((s.len : Nat) : Int) ∧ onO s.a fun p => ld L (p.add (i.toNat * k)) K w := by
  subst hn
  have hlt : i.toNat < xs.length := by
    rcases Nat.lt_or_ge i.toNat xs.length with h | h
    · exact h
    · rw [List.getElem?_eq_none h] at hy; cases hy
  refine ⟨hi, by have := h.1; omega, ?_⟩
  obtain ⟨p, hp, hh⟩ := h.has hy h0
  rw [hp]
  exact ⟨y, hh, hk⟩

theorem cellsAt_of (h : slAt L w s xs) : cellsAt w s L.n (xs.flatMap L.cells) := by
  obtain ⟨h1, h2, h3⟩ := h
  refine ⟨by rw [flat_len, h1], ?_⟩
  rcases h3 with ⟨h3, h4⟩ | ⟨b, off, l, e, fz, h4, h5, h6, h7⟩
  · left
    have : xs = [] := by
      cases xs with
      | nil => rfl
      | cons => simp at h1; omega
    subst this; exact ⟨rfl, h3⟩
  · right
    refine ⟨_, h4, rfl, l, e, fz, h5, ?_, ?_⟩
    · rw [flat_len, ← h1, h7]
    · rw [flat_len, ← h1]
      have : s.len * L.n ≤ s.cap * L.n := Nat.mul_le_mul_right _ h2
      show off + s.len * L.n ≤ l.size
      omega

theorem wrt_take {l : List Value} {off : Nat} {cs : List Value} (h : off + cs.length ≤ l.length) (o n : Nat) (ho : o + n = off) : ((wrt l off cs).drop o).take (n + cs.length) = (l.drop o).take n ++ cs := by
  unfold wrt
  subst ho
  rw [List.append_assoc, List.drop_append_of_le_length (by rw [List.length_take]; omega)]
  rw [List.drop_take, show o + n - o = n by omega]
  have hl : ((l.drop o).take n).length = n := by rw [List.length_take, List.length_drop]; omega
  rw [← List.append_assoc, List.take_append_of_le_length (by rw [List.length_append, hl]; exact Nat.le_refl _)]
  rw [List.take_of_length_le (by rw [List.length_append, hl]; exact Nat.le_refl _)]
theorem wrt_length {l : List Value} {off : Nat} {cs : List Value} (h : off + cs.length ≤ l.length) : (wrt l off cs).length = l.length := by
  unfold wrt; simp; omega

theorem reps_length (n : Nat) (z : List Value) : (reps n z).length = n * z.length := by
  unfold reps
  induction n with
  | zero => simp
  | succ n ih => simp [List.replicate_succ, ih, Nat.add_mul]; omega

theorem apnd_i {e sz by_ : Nat} {z : List Value} {K : Sl → World → Prop} (hs : slOwn L w s xs) (hx : slAt L w x ys) (hsz : L.n = sz) (hz : z.length = L.n) (h0 : by_ ≠ 0) (hby : (xs.length + ys.length) * by_ ≤ 2 ^ 47)
    (hlim : xs.length + ys.length < 2 ^ 62)
    (hone : ∀ y, (L.cells y).all Value.oneCell' = true)
    (hk : ∀ s' w', Ch (blks s) w w' → slOwn L w' s' (xs ++ ys) → (s'.a = s.a ∨ ∃ b, s'.a = some ⟨b, 0, none⟩ ∧ w.heap.size ≤ b) → K s' w') : by_ ≠ 0 ∧ apnd e sz by_ z s x K w := by
  subst hsz
  refine ⟨h0, ?_⟩
  have hl : xs.length = s.len := hs.1.symm
  have hxl : ys.length = x.len := hx.1.symm
  refine ⟨ys.flatMap L.cells, cellsAt_of hx, ?_, ?_, ?_⟩
  · rw [List.all_flatMap]; simp only [List.all_eq_true] at hone ⊢; exact fun y _ => hone y
  · intro hcap
    obtain ⟨h1, h2, h3⟩ := hs
    rcases h3 with ⟨h3, h4⟩ | ⟨b, off, l, el, h4, h5, h6, h7⟩
    · left
      have hy : ys = [] := by
        cases ys with
        | nil => rfl
        | cons => simp at hxl; omega
      have hx' : xs = [] := by
        cases xs with
        | nil => rfl
        | cons => simp at hl; omega
      subst hy hx'
      refine ⟨rfl, hk _ _ (Ch.refl _ _) ⟨?_, ?_, .inl ⟨h3, h4⟩⟩ (.inl rfl)⟩
      · simp at hl hxl ⊢; omega
      · exact hcap
    · right
      have hm : (s.len + x.len) * L.n ≤ s.cap * L.n := Nat.mul_le_mul_right _ hcap
      rw [Nat.add_mul] at hm
      have hfl : (ys.flatMap L.cells).length = x.len * L.n := by rw [flat_len, hxl]
      refine ⟨_, h4, ?_⟩
      rw [Addr.add_lit]
      have hroom : off + s.len * L.n + (ys.flatMap L.cells).length ≤ l.size := by rw [hfl]; omega
      refine st_i (l := l) (e := el) h5 rfl hroom ?_
      refine hk _ _ (Ch.put _ _ (.inl ?_)) ⟨?_, hcap, .inr ⟨b, off, _, el, h4, hp_put_eq h5, ?_, ?_⟩⟩ (.inl rfl)
      · simp [blks, h4]
      · simp [hl, hxl]
      · show off + s.cap * L.n ≤ (wrt l.toList (off + s.len * L.n) _).toArray.size
        rw [List.size_toArray, wrt_length (by simpa using hroom)]
        simpa using h6
      · show ((wrt l.toList (off + s.len * L.n) (ys.flatMap L.cells)).drop off).take ((s.len + x.len) * L.n) = _
        rw [Nat.add_mul, ← hfl, wrt_take (by simpa using hroom) off (s.len * L.n) rfl, h7]
        simp
  · intro hcap
    refine ⟨xs.flatMap L.cells, cellsAt_of hs.at, ?_, ?_⟩
    · have := growslice_fits (need := s.len + x.len) (old := s.cap) (bytes := by_) hcap (by rw [← hl, ← hxl]; simpa using hby)
      simpa using this
    · intro c' h1 h2
      refine hk _ _ ((Ch.drew).trans (Ch.alloc _)) ⟨?_, h1, .inr ⟨w.heap.size, 0, _, e, rfl, hp_new w.drew _, ?_, ?_⟩⟩ (.inr ⟨w.heap.size, rfl, Nat.le_refl _⟩)
      · simp [hl, hxl]
      · show 0 + c' * L.n ≤ (xs.flatMap L.cells ++ ys.flatMap L.cells ++ reps (c' - (s.len + x.len)) z).toArray.size
        rw [List.size_toArray, List.length_append, List.length_append, flat_len, flat_len, reps_length, hl, hxl, hz, ← Nat.add_mul, ← Nat.add_mul]
        rw [Nat.zero_add]
        exact Nat.mul_le_mul_right _ (by omega)
      · show ((xs.flatMap L.cells ++ ys.flatMap L.cells ++ reps (c' - (s.len + x.len)) z).drop 0).take ((s.len + x.len) * L.n) = _
        rw [List.drop_zero, ← List.flatMap_append, List.take_append_of_le_length (by rw [flat_len, List.length_append, hl, hxl]; exact Nat.le_refl _), List.take_of_length_le (by rw [flat_len, List.length_append, hl, hxl]; exact Nat.le_refl _)]

end Go.Dk

namespace Go.Dk
open Go Go.RowKit
set_option linter.unusedSimpArgs false
set_option linter.unusedVariables false

/-- cells that lie at p -/
def rdL (w : World) (p : Addr) (n : Nat) : Option (List Value) :=
  match w.heap[p.block]? with
  | some (.cells l _ _) => if p.spot = none ∧ p.off + n ≤ l.size then some ((l.toList.drop p.off).take n) else none
  | _ => none
theorem has_rdL {w : World} {p : Addr} {cs : List Value} : has w p cs ↔ rdL w p cs.length = some cs := by
  unfold has rdL
  constructor
  · rintro ⟨h1, l, e, fz, h2, h3, h4⟩
    simp only [h2, h1, h4, h3, and_self, if_true]
  · intro h
    split at h
    · rename_i l e fz hl
      split at h
      · rename_i hc; exact ⟨hc.1, l, e, fz, hl, Option.some.inj h, hc.2⟩
      · cases h
    · cases h
theorem rdL_of {w : World} {b off n : Nat} {l : Array Value} {e : TypeId} {fz : Nat × Nat} (h : w.heap[b]? = some (.cells l e fz)) (hb : off + n ≤ l.size) : rdL w ⟨b, off, none⟩ n = some ((l.toList.drop off).take n) := by
  unfold rdL; simp only [h, true_and, hb, if_true]

@[simp] theorem newB_eq {o : Obj} {K : Nat → World → Prop} {w : World} : newB o K w = K w.heap.size (w.alloc o) := rfl
theorem ld_eq {L : LTy} {p : Addr} {K : L.α → World → Prop} {w : World} : ld L p K w ↔ ∃ x, rdL w p L.n = some (L.cells x) ∧ K x w := by
  unfold ld
  constructor
  · rintro ⟨x, h, hk⟩; exact ⟨x, by rw [← L.h_len x]; exact has_rdL.1 h, hk⟩
  · rintro ⟨x, h, hk⟩; exact ⟨x, has_rdL.2 (by rw [L.h_len x]; exact h), hk⟩
@[simp] theorem ld_int {k : IntKind} {p : Addr} {K : Int → World → Prop} {w : World} : ld (lInt k) p K w ↔ ∃ x, rdL w p 1 = some [.int k x] ∧ K x w := ld_eq
@[simp] theorem ld_bool {p : Addr} {K : Bool → World → Prop} {w : World} : ld lBool p K w ↔ ∃ x, rdL w p 1 = some [.bool x] ∧ K x w := ld_eq
@[simp] theorem ld_ptr {p : Addr} {K : Option Addr → World → Prop} {w : World} : ld lPtr p K w ↔ ∃ x, rdL w p 1 = some [.pointer x] ∧ K x w := ld_eq
@[simp] theorem ld_map {p : Addr} {K : Option Nat → World → Prop} {w : World} : ld lMap p K w ↔ ∃ x, rdL w p 1 = some [.map x] ∧ K x w := ld_eq
@[simp] theorem ld_sl {p : Addr} {K : Sl → World → Prop} {w : World} : ld lSl p K w ↔ ∃ a n c, rdL w p 1 = some [.slice a n c] ∧ K ⟨a, n, c⟩ w :=
  ld_eq.trans ⟨fun ⟨x, h⟩ => ⟨x.a, x.len, x.cap, h⟩, fun ⟨a, n, c, h⟩ => ⟨⟨a, n, c⟩, h⟩⟩

/-! ### blocks -/
@[simp] theorem hs_alloc_new {w : World} {o : Obj} {k : Nat} (h : k = w.heap.size) : (w.alloc o).heap[k]? = some o := by subst h; exact hp_new w o
@[simp] theorem hs_alloc_old {w : World} {o : Obj} {k : Nat} (h : k < w.heap.size) : (w.alloc o).heap[k]? = w.heap[k]? := (Ch.alloc (S := []) o).block k h (by simp)
@[simp] theorem hs_put_eq {w : World} {o : Obj} {b k : Nat} (h : k = b) (hb : b < w.heap.size) : (w.putObj b o).heap[k]? = some o := by subst h; exact World.putObj_heap_same hb
@[simp] theorem hs_put_ne {w : World} {o : Obj} {k b : Nat} (h : k ≠ b) : (w.putObj b o).heap[k]? = w.heap[k]? := World.putObj_heap_other h
@[simp] theorem hs_drew {w : World} {k : Nat} : w.drew.heap[k]? = w.heap[k]? := rfl
@[simp] theorem put_new {w : World} {o o' : Obj} {b : Nat} (h : b = w.heap.size) : (w.alloc o).putObj b o' = w.alloc o' := by
  subst h
  unfold World.putObj World.alloc
  simp only
  congr 1
  apply Array.toList_inj.1
  rw [Array.toList_setIfInBounds]
  simp

@[simp] theorem rdL_alloc_old {w : World} {o : Obj} {p : Addr} {n : Nat} (h : p.block < w.heap.size) : rdL (w.alloc o) p n = rdL w p n := by unfold rdL; rw [hs_alloc_old h]
@[simp] theorem rdL_drew {w : World} {p : Addr} {n : Nat} : rdL w.drew p n = rdL w p n := rfl
@[simp] theorem rdL_put_ne {w : World} {o : Obj} {p : Addr} {n b : Nat} (h : p.block ≠ b) : rdL (w.putObj b o) p n = rdL w p n := by unfold rdL; rw [hs_put_ne h]
@[simp] theorem rdL_new {w : World} {cs : List Value} {e : TypeId} {fz : Nat × Nat} {b off n : Nat} (h : b = w.heap.size) (ho : off + n ≤ cs.length) : rdL (w.alloc (.cells cs.toArray e fz)) ⟨b, off, none⟩ n = some ((cs.drop off).take n) := by
  rw [rdL_of (hs_alloc_new h) (by simpa using ho)]
@[simp] theorem rdL_put {w : World} {cs : List Value} {e : TypeId} {fz : Nat × Nat} {b k off n : Nat} (h : k = b) (hb : b < w.heap.size) (ho : off + n ≤ cs.length) : rdL (w.putObj b (.cells cs.toArray e fz)) ⟨k, off, none⟩ n = some ((cs.drop off).take n) := by
  rw [rdL_of (hs_put_eq h hb) (by simpa using ho)]
@[simp] theorem add_lit {b o n : Nat} : Addr.add ⟨b, o, none⟩ n = ⟨b, o + n, none⟩ := Addr.add_lit b o n
@[simp] theorem add_block {p : Addr} {n : Nat} : (p.add n).block = p.block := by unfold Addr.add; split <;> rfl

theorem st_eq {p : Addr} {cs : List Value} {K : World → Prop} {w : World} : st p cs K w ↔ ∃ l e, w.heap[p.block]? = some (.cells l e) ∧ p.spot = none ∧ p.off + cs.length ≤ l.size ∧ K (w.putObj p.block (.cells (wrt l.toList p.off cs).toArray e)) := Iff.rfl
/-- a store into a block just made -/
@[simp] theorem st_new {w : World} {cs l : List Value} {e : TypeId} {b off : Nat} {K : World → Prop} (h : b = w.heap.size) (ho : off + cs.length ≤ l.length) : st ⟨b, off, none⟩ cs K (w.alloc (.cells l.toArray e)) ↔ K (w.alloc (.cells (wrt l off cs).toArray e)) := by
  subst h
  rw [st_eq]
  constructor
  · rintro ⟨l', e', h1, h2, h3, h4⟩
    rw [hs_alloc_new rfl] at h1
    cases h1
    rw [put_new rfl] at h4; exact h4
  · intro hk
    exact ⟨l.toArray, e, hs_alloc_new rfl, rfl, by simpa using ho, by rw [put_new rfl]; exact hk⟩
attribute [simp] wrt

end Go.Dk

namespace Go.Dk
open Go Go.RowKit
set_option linter.unusedSimpArgs false
set_option linter.unusedVariables false

section
variable {α β : Type} (keq : α → α → Bool)
def kv (e : Ent α β) : α × β := (e.k, e.v)
def kfind (x : α) (l : List (α × β)) : Option β := (l.find? fun e => keq x e.1).map (·.2)
def kset (x : α) (v : β) : List (α × β) → List (α × β)
  | [] => [(x, v)]
  | e :: r => if keq x e.1 then (x, v) :: r else e :: kset x v r
def kdel (x : α) : List (α × β) → List (α × β)
  | [] => []
  | e :: r => if keq x e.1 then r else e :: kdel x r
theorem mfind_kv (x : α) : ∀ l : List (Ent α β), mfind keq x l = kfind keq x (l.map kv)
  | [] => rfl
  | e :: r => by
    have ih := mfind_kv x r
    unfold mfind kfind at *
    simp only [List.map_cons, List.find?_cons, kv]
    cases keq x e.k
    · exact ih
    · rfl
theorem mset_kv (x : α) (v : β) (c : Nat) : ∀ l : List (Ent α β), (mset keq x v c l).map kv = kset keq x v (l.map kv)
  | [] => rfl
  | e :: r => by
    have ih := mset_kv x v c r
    unfold mset
    simp only [List.map_cons, kset, kv]
    split
    · rfl
    · rw [List.map_cons, ih]; rfl
theorem mdel_kv (x : α) : ∀ l : List (Ent α β), (mdel keq x l).map kv = kdel keq x (l.map kv)
  | [] => rfl
  | e :: r => by
    have ih := mdel_kv x r
    unfold mdel
    simp only [List.map_cons, kdel, kv]
    split
    · rfl
    · rw [List.map_cons, ih]; rfl

/-- what holds of the entries' numbers -/
def MOk (l : List (Ent α β)) (c : Nat) : Prop := (∀ e ∈ l, e.b < c) ∧ (l.map (·.b)).Nodup
theorem MOk.nil (c : Nat) : MOk ([] : List (Ent α β)) c := ⟨by simp, by simp⟩
theorem mset_b (x : α) (v : β) (c : Nat) : ∀ l : List (Ent α β), (mset keq x v c l).map (·.b) = if l.any (fun e => keq x e.k) then l.map (·.b) else l.map (·.b) ++ [c]
  | [] => rfl
  | e :: r => by
    have ih := mset_b x v c r
    unfold mset
    cases h : keq x e.k
    · simp only [h, Bool.false_eq_true, if_false, List.map_cons, ih, List.any_cons, Bool.false_or]
      split <;> rfl
    · simp [h]
theorem mclk_le (x : α) (c : Nat) (l : List (Ent α β)) : c ≤ mclk keq x c l := by unfold mclk; split <;> omega
theorem MOk.set {l : List (Ent α β)} {c : Nat} (h : MOk l c) (x : α) (v : β) : MOk (mset keq x v c l) (mclk keq x c l) := by
  have hb := mset_b keq x v c l
  constructor
  · intro e he
    have : e.b ∈ (mset keq x v c l).map (·.b) := List.mem_map.2 ⟨e, he, rfl⟩
    rw [hb] at this
    unfold mclk
    split at this
    · obtain ⟨e', he', hbe⟩ := List.mem_map.1 this
      rw [if_pos (by assumption), ← hbe]; exact h.1 e' he'
    · rw [if_neg (by assumption)]
      rcases List.mem_append.1 this with h1 | h1
      · obtain ⟨e', he', hbe⟩ := List.mem_map.1 h1
        have := h.1 e' he'; omega
      · simp at h1; omega
  · rw [hb]
    split
    · exact h.2
    · rw [List.nodup_append]
      refine ⟨h.2, by simp, ?_⟩
      intro a ha b hb' e
      subst e
      obtain ⟨e', he', hbe⟩ := List.mem_map.1 ha
      have := h.1 e' he'
      simp at hb'; omega
theorem mdel_sub (x : α) : ∀ l : List (Ent α β), (mdel keq x l).Sublist l
  | [] => List.Sublist.refl _
  | e :: r => by
    unfold mdel
    split
    · exact List.sublist_cons_self _ _
    · exact (mdel_sub x r).cons_cons e
theorem MOk.del {l : List (Ent α β)} {c : Nat} (h : MOk l c) (x : α) : MOk (mdel keq x l) c :=
  ⟨fun e he => h.1 e ((mdel_sub keq x l).subset he), ((mdel_sub keq x l).map _).nodup h.2⟩
end

/-- a map's block -/
def mapAt (LK LV : LTy) (w : World) (b : Nat) (xs : List (LK.α × LV.α)) : Prop := ∃ l c, w.heap[b]? = some (mapObj LK LV l c) ∧ MOk l c ∧ l.map kv = xs
variable {LK LV : LTy} {w : World} {b : Nat} {xs : List (LK.α × LV.α)}
theorem mapAt.ch {S : List Nat} {w' : World} (h : mapAt LK LV w b xs) (hc : Ch S w w') (hb : b ∉ S) : mapAt LK LV w' b xs := by
  obtain ⟨l, c, h1, h2, h3⟩ := h
  exact ⟨l, c, hp_ch hc h1 hb, h2, h3⟩
theorem mapAt.lt (h : mapAt LK LV w b xs) : b < w.heap.size := by obtain ⟨l, c, h1, _⟩ := h; exact hp_lt h1
theorem mapAt.new : mapAt LK LV (w.alloc (.map #[] 0)) w.heap.size [] := ⟨[], 0, hp_new _ _, MOk.nil 0, rfl⟩
theorem mapAt.get (h : mapAt LK LV w b xs) {x : LK.α} {K : LV.α → Bool → World → Prop} (hk : K ((kfind LK.keq x xs).getD LV.zero) (kfind LK.keq x xs).isSome w) : mget LK LV (some b) x K w := by
  obtain ⟨l, c, h1, h2, rfl⟩ := h
  rw [← mfind_kv] at hk
  exact ⟨l, c, h1, hk⟩
theorem mapAt.put (h : mapAt LK LV w b xs) {x : LK.α} {v : LV.α} {K : World → Prop} (hk : ∀ w', Ch [b] w w' → mapAt LK LV w' b (kset LK.keq x v xs) → K w') : mput LK LV (some b) x v K w := by
  obtain ⟨l, c, h1, h2, rfl⟩ := h
  refine mput_i (l := l) (c := c) h1 (hk _ (Ch.put _ _ (.inl (by simp))) ⟨_, _, hp_put_eq h1, h2.set _ _ _, ?_⟩)
  rw [mset_kv]
theorem mapAt.del (h : mapAt LK LV w b xs) {x : LK.α} {K : World → Prop} (hk : ∀ w', Ch [b] w w' → mapAt LK LV w' b (kdel LK.keq x xs) → K w') : mdl LK LV (some b) x K w := by
  obtain ⟨l, c, h1, h2, rfl⟩ := h
  refine mdl_i (l := l) (c := c) h1 (hk _ (Ch.put _ _ (.inl (by simp))) ⟨_, _, hp_put_eq h1, h2.del _ _, ?_⟩)
  rw [mdel_kv]

/-! ### a walk over a map -/
/-- the entries that a walk has not come to yet, where it stands -/
def iterAt (LK LV : LTy) (w : World) (r m : Nat) (xs : List (LK.α × LV.α)) (todo : List (LK.α × LV.α)) : Prop :=
  ∃ l c seen, w.heap[r]? = some (.mapIter (some m) c seen c) ∧ w.heap[m]? = some (mapObj LK LV l c) ∧ MOk l c ∧ l.map kv = xs ∧ r ≠ m ∧ ((l.filter fun e => !(seen.contains e.b)).map kv).Perm todo

theorem iterAt.ch {S : List Nat} {w' : World} {r m : Nat} {todo : List (LK.α × LV.α)} (h : iterAt LK LV w r m xs todo) (hc : Ch S w w') (hr : r ∉ S) (hm : m ∉ S) : iterAt LK LV w' r m xs todo := by
  obtain ⟨l, c, seen, h1, h2, h3⟩ := h
  exact ⟨l, c, seen, hp_ch hc h1 hr, hp_ch hc h2 hm, h3⟩

theorem mapAt.rng (h : mapAt LK LV w b xs) {K : Nat → World → Prop} (hk : ∀ r w', r = w.heap.size → Ch [] w w' → iterAt LK LV w' r b xs xs → K r w') : mrng (some b) K w := by
  obtain ⟨l, c, h1, h2, h3⟩ := h
  refine .inr ⟨b, _, c, rfl, h1, ?_⟩
  refine hk _ _ rfl (Ch.alloc _) ⟨l, c, #[], hp_new _ _, hp_alloc h1, h2, h3, by have := hp_lt h1; omega, ?_⟩
  have : (l.filter fun e => !((#[] : Array Nat).contains e.b)) = l := by
    rw [List.filter_eq_self]; intro e _; simp
  rw [this, h3]

/-- one more of them; whichever: its place is r's -/
theorem iterAt.next {r m : Nat} {todo : List (LK.α × LV.α)} (h : iterAt LK LV w r m xs todo) {K0 : World → Prop} {K1 : Value → Value → World → Prop}
    (h0 : ∀ w', Ch [r] w w' → todo = [] → K0 w')
    (h1 : ∀ k v rest w', Ch [r] w w' → todo.Perm ((k, v) :: rest) → iterAt LK LV w' r m xs rest → (∀ K : Value → Value → World → Prop, K (LK.enc k) (LV.enc v) w' → mentry r K w') → K1 (LK.enc k) (LV.enc v) w') :
    mnx r K0 K1 w := by
  obtain ⟨l, c, seen, hr, hm, hok, hx, hrm, hp⟩ := h
  refine .inr ⟨m, _, c, seen, hr, hm, ?_, ?_⟩
  · intro e he
    simp only [mapObj, List.mem_toArray, List.mem_map] at he
    obtain ⟨e', he', rfl⟩ := he
    exact hok.1 e' he'
  · intro w1 hw1
    have hch : Ch [r] w w1 := by rcases hw1 with rfl | rfl; exact Ch.refl _ _; exact Ch.drew
    have hr1 : w1.heap[r]? = some (.mapIter (some m) c seen c) := by rcases hw1 with rfl | rfl; exact hr; exact hr
    have hm1 : w1.heap[m]? = some (mapObj LK LV l c) := by rcases hw1 with rfl | rfl; exact hm; exact hm
    constructor
    · intro hall
      refine h0 w1 hch ?_
      have : (l.filter fun e => !(seen.contains e.b)) = [] := by
        rw [List.filter_eq_nil_iff]
        intro e he
        have : e.b ∈ seen := hall (entM LK LV e) (by simp only [List.mem_toArray, List.mem_map]; exact ⟨e, he, rfl⟩)
        simpa using this
      rw [this] at hp
      exact hp.symm.eq_nil
    · intro e he hns
      simp only [List.mem_toArray, List.mem_map] at he
      obtain ⟨e, he, rfl⟩ := he
      have hns' : e.b ∉ seen := hns
      have hmem : e ∈ l.filter fun e => !(seen.contains e.b) := by rw [List.mem_filter]; exact ⟨he, by simpa using hns'⟩
      have hnd : ∀ e1 ∈ l, ∀ e2 ∈ l, e1.b = e2.b → e1 = e2 := by
        have gen : ∀ (l : List (Ent LK.α LV.α)), (l.map (·.b)).Nodup → ∀ e1 ∈ l, ∀ e2 ∈ l, e1.b = e2.b → e1 = e2 := by
          intro l
          induction l with
          | nil => intro _ e1 h1; cases h1
          | cons a r ih =>
            intro hn e1 h1 e2 h2 hb
            rw [List.map_cons, List.nodup_cons] at hn
            rcases List.mem_cons.1 h1 with g1 | g1 <;> rcases List.mem_cons.1 h2 with g2 | g2
            · rw [g1, g2]
            · exact (hn.1 (g1 ▸ hb ▸ List.mem_map.2 ⟨e2, g2, rfl⟩)).elim
            · exact (hn.1 (g2 ▸ hb ▸ List.mem_map.2 ⟨e1, g1, rfl⟩)).elim
            · exact ih hn.2 e1 g1 e2 g2 hb
        exact gen l hok.2
      -- the rest of them
      have hsplit : (l.filter fun x => !(seen.contains x.b)).Perm (e :: l.filter fun x => !((seen.push e.b).contains x.b)) := by
        have hn : l.Nodup := List.Pairwise.of_map _ (fun a b h => h ∘ congrArg _) hok.2 |> fun h => h
        have hfn : (l.filter fun x => !(seen.contains x.b)).Nodup := hn.filter _
        refine (List.perm_ext_iff_of_nodup hfn ?_).2 ?_
        · rw [List.nodup_cons]
          refine ⟨?_, hn.filter _⟩
          rw [List.mem_filter]; simp
        · intro x
          simp only [List.mem_cons, List.mem_filter, Array.contains_push, Bool.not_or, Bool.and_eq_true, Bool.not_eq_true', beq_eq_false_iff_ne, ne_eq]
          constructor
          · rintro ⟨hx1, hx2⟩
            by_cases hxe : x = e
            · exact .inl hxe
            · exact .inr ⟨hx1, hx2, fun hb => hxe (hnd x hx1 e he hb)⟩
          · rintro (rfl | ⟨hx1, hx2, hx3⟩)
            · exact ⟨he, by simpa using hns'⟩
            · exact ⟨hx1, hx2⟩
      refine h1 e.k e.v ((l.filter fun x => !((seen.push e.b).contains x.b)).map kv) _ (hch.put' _ _ (.inl (by simp))) ?_ ?_ ?_
      · exact hp.symm.trans (hsplit.map kv)
      · exact ⟨l, c, seen.push e.b, hp_put_eq hr1, hp_put_ne hm1 hrm.symm, hok, hx, hrm, List.Perm.refl _⟩
      · intro K hk
        refine ⟨m, _, c, seen.push e.b, entM LK LV e, hp_put_eq hr1, hp_put_ne hm1 hrm.symm, by simp [entM], ?_, hk⟩
        rw [List.find?_toArray, List.find?_map]
        have hf : l.find? ((fun x : MapEntry => x.born == (entM LK LV e).born) ∘ entM LK LV) = some e := by
          rw [List.find?_eq_some_iff_append]
          obtain ⟨as, bs, hab⟩ := List.append_of_mem he
          refine ⟨by simp, as, bs, hab, ?_⟩
          intro a ha
          simp only [Function.comp, Bool.not_eq_true', beq_eq_false_iff_ne, ne_eq]
          intro hb
          have hb' : a.b = e.b := hb
          have := hok.2
          rw [hab, List.map_append, List.map_cons, List.nodup_append] at this
          exact this.2.2 a.b (List.mem_map.2 ⟨a, ha, rfl⟩) e.b (by simp) hb'
        rw [hf]; rfl

end Go.Dk

namespace Go.Dk
open Go Go.RowKit
set_option linter.unusedSimpArgs false
set_option linter.unusedVariables false

theorem fresh_not {w : World} {s : Sl} {k : Nat} (h : fresh w.heap.size s) (hk : k < w.heap.size) : k ∉ blks s := by
  intro hx
  cases hs : s.a with
  | none => simp [blks, hs] at hx
  | some q => simp [blks, hs] at hx; have := h q hs; omega
theorem fresh_blks {n : Nat} {s : Sl} (h : fresh n s) : ∀ k ∈ blks s, n ≤ k := by
  intro k hx
  cases hs : s.a with
  | none => simp [blks, hs] at hx
  | some q => simp [blks, hs] at hx; subst hx; exact h q hs
theorem rdL_lt {w : World} {p : Addr} {n : Nat} {l : List Value} (h : rdL w p n = some l) : p.block < w.heap.size := by
  unfold rdL at h
  split at h
  · rename_i hl; exact hp_lt hl
  · cases h
theorem rdL_ch {S : List Nat} {w w' : World} {p : Addr} {n : Nat} {l : List Value} (h : rdL w p n = some l) (hc : Ch S w w') (hp : p.block ∉ S) : rdL w' p n = some l := by
  have := rdL_lt h
  unfold rdL at *
  rw [hc.block _ this hp]; exact h
theorem rdL_sub {w : World} {p : Addr} {n off k : Nat} {l : List Value} (h : rdL w p n = some l) (ho : off + k ≤ n) : rdL w (p.add off) k = some ((l.drop off).take k) := by
  unfold rdL at h ⊢
  split at h
  · rename_i c e fz hc
    split at h
    · rename_i hcond
      obtain ⟨b, o, sp⟩ := p
      simp only at hcond
      obtain ⟨rfl, h2⟩ := hcond
      rw [Addr.add_lit]
      simp only at hc
      simp only [hc, true_and]
      rw [if_pos (by omega)]
      have := Option.some.inj h
      rw [← this]
      congr 1
      rw [List.drop_take, List.drop_drop, List.take_take]
      congr 1
      omega
    · cases h
  · cases h

variable {L : LTy} {w w' w1 : World} {s x t : Sl} {xs ys outs : List L.α}

/-- an element's place -/
theorem idx_p {k : Nat} {i : Int} {y : L.α} {G : Addr → Prop} (h : slAt L w s xs) (hn : L.n = k) (h0 : 0 < k) (hi : 0 ≤ i) (hy : xs[i.toNat]? = some y)
    (hG : ∀ q, rdL w q k = some (L.cells y) → G q) : (0 : Int) ≤ i ∧ i < ((s.len : Nat) : Int) ∧ onO s.a fun p => G (p.add (i.toNat * k)) := by
  subst hn
  have hlt : i.toNat < xs.length := by
    rcases Nat.lt_or_ge i.toNat xs.length with h | h
    · exact h
    · rw [List.getElem?_eq_none h] at hy; cases hy
  refine ⟨hi, by have := h.1; omega, ?_⟩
  obtain ⟨p, hp, hh⟩ := h.has hy h0
  rw [hp]
  refine hG _ ?_
  have := has_rdL.1 hh
  rw [L.h_len] at this
  exact this

theorem slA_zero (a : Option Addr) (m sz : Nat) : slA a m 0 sz = a := by
  unfold slA; split
  · rfl
  · cases a <;> simp [Addr.add]

/-- s[l:h:m] -/
theorem slAt.sub (h : slAt L w s xs) {l hi m : Nat} (h1 : l ≤ hi) (h2 : hi ≤ xs.length) (h3 : hi ≤ m) (h4 : m ≤ s.cap) : slAt L w ⟨slA s.a m l L.n, hi - l, m - l⟩ ((xs.take hi).drop l) := by
  obtain ⟨g1, g2, g3⟩ := h
  refine ⟨by simp; omega, by show hi - l ≤ m - l; omega, ?_⟩
  rcases g3 with ⟨g3, g4⟩ | ⟨b, off, c, e, fz, g3, g4, g5, g6⟩
  · refine .inl ⟨?_, by show m - l = 0; omega⟩
    unfold slA; split
    · exact g3
    · rw [g3]; rfl
  · refine .inr ?_
    by_cases hm : m = l
    · have hl : hi = l := by omega
      refine ⟨b, off, c, e, fz, ?_, g4, ?_, ?_⟩
      · show slA s.a m l L.n = _
        unfold slA; rw [if_pos hm]; exact g3
      · show off + (m - l) * L.n ≤ c.size
        rw [hm, Nat.sub_self, Nat.zero_mul]; omega
      · show (c.toList.drop off).take ((hi - l) * L.n) = _
        rw [hl, Nat.sub_self, Nat.zero_mul, List.take_zero, List.drop_of_length_le (by simp; omega)]
        rfl
    · refine ⟨b, off + l * L.n, c, e, fz, ?_, g4, ?_, ?_⟩
      · show slA s.a m l L.n = _
        unfold slA; rw [if_neg hm, g3]
        rw [Option.map_some, Addr.add_lit]
      · show off + l * L.n + (m - l) * L.n ≤ c.size
        have : l * L.n + (m - l) * L.n = m * L.n := by rw [← Nat.add_mul]; congr 1; omega
        have : m * L.n ≤ s.cap * L.n := Nat.mul_le_mul_right _ h4
        omega
      · show (c.toList.drop (off + l * L.n)).take ((hi - l) * L.n) = _
        have e1 : (c.toList.drop (off + l * L.n)).take ((hi - l) * L.n) = (((c.toList.drop off).take (s.len * L.n)).drop (l * L.n)).take ((hi - l) * L.n) := by
          rw [List.drop_take, List.drop_drop, List.take_take]
          congr 1
          have : (hi - l) * L.n ≤ s.len * L.n - l * L.n := by rw [← Nat.sub_mul]; exact Nat.mul_le_mul_right _ (by omega)
          omega
        rw [e1, g6]
        have e2 : xs = xs.take l ++ xs.drop l := (List.take_append_drop l xs).symm
        have e3 : (xs.flatMap L.cells).drop (l * L.n) = (xs.drop l).flatMap L.cells := by
          conv => lhs; rw [e2]
          rw [List.flatMap_append, List.drop_append_of_le_length (by rw [flat_len, List.length_take]; exact Nat.mul_le_mul_right _ (by omega)), List.drop_of_length_le (by rw [flat_len, List.length_take]; exact Nat.mul_le_mul_right _ (by omega))]
          rfl
        rw [e3]
        have e4 : xs.drop l = (xs.take hi).drop l ++ xs.drop hi := by
          rw [List.drop_take]
          have : xs.drop hi = (xs.drop l).drop (hi - l) := by rw [List.drop_drop]; congr 1; omega
          rw [this, List.take_append_drop]
        conv => lhs; rw [e4]
        have e5 : (((xs.take hi).drop l).flatMap L.cells).length = (hi - l) * L.n := by
          rw [flat_len, List.length_drop, List.length_take]; congr 1; omega
        rw [List.flatMap_append, List.take_append_of_le_length (by omega), List.take_of_length_le (by omega)]

/-- a field of an element is read -/
theorem idx_f {k f : Nat} {i : Int} {y : L.α} {kd : IntKind} {v : Int} {K : Int → World → Prop} (h : slAt L w s xs) (hn : L.n = k) (h0 : f + 1 ≤ k) (hi : 0 ≤ i) (hy : xs[i.toNat]? = some y)
    (hv : ((L.cells y).drop f).take 1 = [.int kd v]) (hk : K v w) : (0 : Int) ≤ i ∧ i < ((s.len : Nat) : Int) ∧ onO s.a fun p => ld (lInt kd) ((p.add (i.toNat * k)).add f) K w :=
  idx_p (G := fun q => ld (lInt kd) (q.add f) K w) h hn (by omega) hi hy fun q hq => ld_int.2 ⟨v, by rw [rdL_sub (off := f) (k := 1) hq (by omega), hv], hk⟩

theorem wrt_take' {l : List Value} {off : Nat} {cs : List Value} (h : off + cs.length ≤ l.length) : ((wrt l off cs).drop off).take cs.length = cs := by
  unfold wrt
  rw [List.append_assoc, List.drop_append_of_le_length (by rw [List.length_take]; omega), List.drop_of_length_le (by rw [List.length_take]; omega), List.nil_append, List.take_append_of_le_length (Nat.le_refl _), List.take_of_length_le (Nat.le_refl _)]

/-- cells of one element laid over -/
theorem flat_wrt : ∀ (xs : List L.α) (i f : Nat) (cs : List Value) (y' : L.α) (hi : i < xs.length), f + cs.length ≤ L.n → L.cells y' = wrt (L.cells xs[i]) f cs →
    wrt (xs.flatMap L.cells) (i * L.n + f) cs = (xs.set i y').flatMap L.cells := by
  intro xs
  induction xs with
  | nil => intro i f cs y' hi; simp at hi
  | cons x r ih =>
    intro i f cs y' hi hf hw
    have hx := L.h_len x
    cases i with
    | zero =>
      simp only [List.getElem_cons_zero] at hw
      rw [List.set_cons_zero, List.flatMap_cons, List.flatMap_cons, hw]
      unfold wrt
      simp only [Nat.zero_mul, Nat.zero_add]
      rw [List.take_append_of_le_length (by omega), List.drop_append_of_le_length (by omega)]
      simp [List.append_assoc]
    | succ i =>
      simp only [List.getElem_cons_succ] at hw
      rw [List.set_cons_succ, List.flatMap_cons, List.flatMap_cons, ← ih i f cs y' (by simpa using hi) hf hw]
      unfold wrt
      have e1 : (i + 1) * L.n + f = (L.cells x).length + (i * L.n + f) := by rw [hx, Nat.add_mul]; omega
      rw [e1, List.take_length_add_append, Nat.add_assoc, List.drop_length_add_append]
      simp [List.append_assoc]

/-- a field of an element is written -/
theorem idx_set {k f i : Nat} {cs : List Value} {y' : L.α} {K : World → Prop} (h : slOwn L w s xs) (hn : L.n = k) (h0 : 0 < k) (hi : i < xs.length) (hf : f + cs.length ≤ k) (hw : L.cells y' = wrt (L.cells xs[i]) f cs)
    (hk : ∀ w', Ch (blks s) w w' → slOwn L w' s (xs.set i y') → K w') : (0 : Int) ≤ (i : Int) ∧ (i : Int) < ((s.len : Nat) : Int) ∧ onO s.a fun p => st ((p.add ((i : Int).toNat * k)).add f) cs K w := by
  subst hn
  obtain ⟨g1, g2, g3⟩ := h
  refine ⟨by omega, by omega, ?_⟩
  rcases g3 with ⟨g3, g4⟩ | ⟨b, off, c, e, g3, g4, g5, g6⟩
  · omega
  · rw [g3, onO_some, Addr.add_lit, Addr.add_lit, Int.toNat_natCast]
    have hb : (i + 1) * L.n ≤ s.len * L.n := Nat.mul_le_mul_right _ (by omega)
    have hb2 : s.len * L.n ≤ s.cap * L.n := Nat.mul_le_mul_right _ g2
    rw [Nat.add_mul, Nat.one_mul] at hb
    refine st_i g4 rfl (by show off + i * L.n + f + cs.length ≤ c.size; omega) ?_
    refine hk _ (Ch.put _ _ (.inl (by simp [blks, g3]))) ⟨by simpa using g1, g2, .inr ⟨b, off, _, e, g3, hp_put_eq g4, ?_, ?_⟩⟩
    · have : (wrt c.toList (off + i * L.n + f) cs).length = c.toList.length := wrt_length (by simp; omega)
      simp only [List.size_toArray]
      rw [this]; simpa using g5
    · rw [← flat_wrt xs i f cs y' hi hf hw, ← g6]
      show ((wrt c.toList (off + i * L.n + f) cs).drop off).take (s.len * L.n) = wrt ((c.toList.drop off).take (s.len * L.n)) (i * L.n + f) cs
      have hcl : c.toList.length = c.size := by simp
      unfold wrt
      rw [List.append_assoc, List.drop_append_of_le_length (by rw [List.length_take]; omega)]
      rw [List.drop_take, show off + i * L.n + f - off = i * L.n + f by omega]
      rw [List.take_append, List.take_of_length_le (l := List.take (i * L.n + f) (List.drop off c.toList)) (by rw [List.length_take, List.length_drop]; omega)]
      rw [List.length_take, List.length_drop, show min (i * L.n + f) (c.toList.length - off) = i * L.n + f by omega]
      rw [List.take_append, List.take_of_length_le (l := cs) (by omega)]
      rw [List.take_take, show min (i * L.n + f) (s.len * L.n) = i * L.n + f by omega, List.append_assoc]
      congr 2
      rw [List.drop_take, List.drop_drop]
      congr 1
      · omega
      · congr 1; omega

/-! ### one's own lists, on the way -/
/-- how things stand on the way: t's elements, a list T that is being made, an element R in a block of its own -/
structure Gx (L : LTy) (w1 : World) (t : Sl) (outs : List L.α) (T : Option (Sl × List L.α)) (R : Option (Nat × L.α)) (W : World) : Prop where
  ch : Ch [] w1 W
  own : slOwn L w1 t outs
  hT : ∀ T', T = some T' → slOwn L W T'.1 T'.2 ∧ fresh w1.heap.size T'.1
  hR : ∀ r, R = some r → slAt L W ⟨some ⟨r.1, 0, none⟩, 1, 1⟩ [r.2] ∧ w1.heap.size ≤ r.1
  hTR : ∀ T' r, T = some T' → R = some r → r.1 ∉ blks T'.1

theorem Gx.start (h : slOwn L w1 t outs) {W : World} (hc : Ch [] w1 W) : Gx L w1 t outs none none W := ⟨hc, h, nofun, nofun, nofun⟩
variable {T : Option (Sl × List L.α)} {R : Option (Nat × L.α)} {W : World}
theorem Gx.own' (h : Gx L w1 t outs T R W) : slOwn L W t outs := h.own.ch h.ch (by simp)
theorem Gx.newA {e : TypeId} {K : Nat → World → Prop} (h : Gx L w1 t outs none R W) (hk : ∀ b W', Gx L w1 t outs (some (⟨some ⟨b, 0, none⟩, 0, 0⟩, [])) R W' → K b W') : newB (.cells [].toArray e) K W := by
  refine hk _ _ ⟨h.ch.alloc' _, h.own, ?_, ?_, ?_⟩
  · intro T' hT'; cases hT'
    exact ⟨⟨rfl, Nat.le_refl _, .inr ⟨W.heap.size, 0, _, e, rfl, hp_new _ _, by simp, by simp⟩⟩, fun p hp => by cases hp; exact h.ch.size⟩
  · intro r hr; exact ⟨(h.hR r hr).1.ch (S := []) (Ch.alloc _) (by simp), (h.hR r hr).2⟩
  · intro T' r hT' hr; cases hT'
    have := (h.hR r hr).1.lt r.1 (by simp [blks])
    simp [blks]; omega
theorem Gx.newR {e : TypeId} {cs : List Value} {y : L.α} {K : Nat → World → Prop} (h : Gx L w1 t outs T none W) (hy : cs = L.cells y) (hk : ∀ b W', Gx L w1 t outs T (some (b, y)) W' → K b W') : newB (.cells cs.toArray e) K W := by
  subst hy
  refine hk _ _ ⟨h.ch.alloc' _, h.own, ?_, ?_, ?_⟩
  · intro T' hT'; exact ⟨(h.hT T' hT').1.ch (S := []) (Ch.alloc _) (by simp), (h.hT T' hT').2⟩
  · intro r hr; cases hr
    exact ⟨⟨rfl, Nat.le_refl _, .inr ⟨W.heap.size, 0, _, e, (0, 0), rfl, hp_new _ _, by simp [L.h_len], by simp [← L.h_len y]⟩⟩, h.ch.size⟩
  · intro T' r hT' hr hm; cases hr
    have := (h.hT T' hT').1.at.lt _ hm
    simp at this
/-- a part of the list is put behind -/
theorem Gx.app {T0 : Sl} {zs ys : List L.α} {X : Sl} {e sz by_ : Nat} {z : List Value} {K : Sl → World → Prop} (h : Gx L w1 t outs (some (T0, zs)) R W) (hX : slAt L W X ys)
    (hsz : L.n = sz) (hz : z.length = L.n) (h0 : by_ ≠ 0) (hby : (zs.length + ys.length) * by_ ≤ 2 ^ 47) (hlim : zs.length + ys.length < 2 ^ 62) (hone : ∀ y, (L.cells y).all Value.oneCell' = true)
    (hk : ∀ t' W', Gx L w1 t outs (some (t', zs ++ ys)) R W' → K t' W') : by_ ≠ 0 ∧ apnd e sz by_ z T0 X K W := by
  obtain ⟨hT1, hT2⟩ := h.hT _ rfl
  refine apnd_i hT1 hX hsz hz h0 hby hlim hone fun t' W' k1 k2 k3 => hk t' W' ?_
  have hfr : fresh w1.heap.size t' := by
    intro p hp
    rcases k3 with k3 | ⟨b', k3, k4⟩
    · exact hT2 p (by rw [← k3]; exact hp)
    · rw [k3] at hp; cases hp; exact Nat.le_trans h.ch.size k4
  refine ⟨h.ch.trans' k1 (fun x hx => .inr (fresh_blks hT2 x hx)), h.own, ?_, ?_, ?_⟩
  · intro T' hT'; cases hT'; exact ⟨k2, hfr⟩
  · intro r hr
    exact ⟨(h.hR r hr).1.ch k1 (fun k hk => by simp [blks] at hk; subst hk; exact h.hTR _ r rfl hr), (h.hR r hr).2⟩
  · intro T' r hT' hr hm; cases hT'
    rcases k3 with k3 | ⟨b', k3, k4⟩
    · exact h.hTR _ r rfl hr (by simpa [blks, k3] using hm)
    · have := (h.hR r hr).1.lt r.1 (by simp [blks])
      simp [blks, k3] at hm; omega
/-- the whole list -/
theorem Gx.part (h : Gx L w1 t outs T R W) {l hi m : Nat} {k : Nat} (hn : L.n = k) (h1 : l ≤ hi) (h2 : hi ≤ outs.length) (h3 : hi ≤ m) (h4 : m ≤ t.cap) : slAt L W ⟨slA t.a m l k, hi - l, m - l⟩ ((outs.take hi).drop l) := by
  subst hn; exact h.own'.at.sub h1 h2 h3 h4
theorem Gx.row {b : Nat} {y : L.α} (h : Gx L w1 t outs T (some (b, y)) W) : slAt L W ⟨some ⟨b, 0, none⟩, 1, 1⟩ [y] := (h.hR _ rfl).1
end Go.Dk
