/- An operation comes to what its formula says. -/
import Derived.Test.YtdmncelglohmiaaDkD
namespace Go.Dk
open Go
set_option linter.unusedSimpArgs false
set_option linter.unusedVariables false

variable {P : Program}

def fw (rd : Option Nat) : Fence := { Fence.wide with round := rd }

theorem callsIn_fw {rd : Option Nat} {n : Nat} {f : FuncId} {args : Array Value} {w : World} {R : Ending → World → Prop} : CallsIn (fw rd) n P f args w R ↔ Calls P f args w R := by
  rw [← callsIn_wide (n := n)]
  exact Iff.rfl

theorem roundIn_fw {rd : Option Nat} {l n : Nat} {f : FuncId} {tmps : Array Value} {as_ body : Code} {w : World} {R : Ending → World → Prop} :
    RoundIn (fw rd) n P l f tmps as_ body w R ↔ RoundIn Fence.wide 0 P l f tmps as_ body w R := by
  constructor
  · exact fun h => ⟨trivial, fun c cs _ => h.2 c cs (fun _ h => by cases h)⟩
  · exact fun h => ⟨trivial, fun c cs _ => h.2 c cs (room_wide _)⟩

/-- an ending that is a return -/
def Ret (K : Value → World → Prop) : Ending → World → Prop := fun e w' => ∃ v, e = .returned v ∧ K v w'

inductive OpRuns (P : Program) (r : Result Next) (K : Value → World → Prop) : Prop
  | value (v : Value) (w' : World) (h : r = .ok (.value v) w') (hk : K v w')
  | skip (w' : World) (h : r = .ok .skip w') (hk : K undef w')
  | enter (f : FuncId) (args : Array Value) (w' : World) (h : r = .ok (.enter f args) w') (hk : Calls P f args w' (Ret K))
  | round (l : Nat) (f : FuncId) (tmps : Array Value) (as_ body : Code) (w' : World) (h : r = .ok (.round l f tmps as_ body) w') (hk : RoundIn Fence.wide 0 P l f tmps as_ body w' (Ret K))

theorem wpIn_of_runs {rd : Option Nat} {o : Oper} {a : Act} {w : World} {next : Act → World → Prop} {Q : Exit → Act → World → Prop} (hd : ∀ c, o.op ≠ .defer c)
    {K : Value → World → Prop} (h : OpRuns P ((execOp a.eval o).run P w) K) (hK : ∀ v w', K v w' → next (a.put o.dst v) w') : o.wpIn (fw rd) 0 P a w next Q := by
  refine ⟨fun _ _ => trivial, ?_⟩
  rw [Oper.semAt_eq _ _ _ hd]
  cases h with
  | value v w' h hk => rw [h]; exact hK _ _ hk
  | skip w' h hk => rw [h]; exact hK _ _ hk
  | enter f args w' h hk =>
    rw [h]
    refine ⟨(fun h => by cases h), callsIn_fw.2 (hk.mono fun e w'' he => ?_)⟩
    obtain ⟨v, rfl, hv⟩ := he
    exact hK _ _ hv
  | round l f tmps as_ body w' h hk =>
    rw [h]
    refine ⟨(fun h => by cases h), roundIn_fw.2 (hk.mono fun e w'' he => ?_)⟩
    obtain ⟨v, rfl, hv⟩ := he
    exact hK _ _ hv

theorem allO_map {ρ : Operand → Option Value} {η : Operand → Value} (hρ : ∀ x v, ρ x = some v → η x = v) : ∀ {l : List Operand} {vs : List Value}, allO ρ l = some vs → l.map η = vs
  | [], vs, h => by simp [allO] at h; subst h; rfl
  | x :: r, vs, h => by
    unfold allO at h
    split at h
    · rename_i v vs' h1 h2
      cases h
      rw [List.map_cons, hρ x v h1, allO_map hρ h2]
    · cases h

theorem binV_run {op : BinOp} {t : TypeId} {a b v : Value} {w : World} (h : binV op a b = some v) : (binOp op t a b).run P w = .ok v w := by
  unfold binV at h
  split at h <;> first
    | (split at h
       · rename_i hk; subst hk; cases h; simp [binOp, Op.intArith, Op.intBits, Op.intCmp, Op.stringOp]
       · cases h)
    | (cases h; simp [binOp, Op.stringOp]; done)
    | (cases h; rfl)
    | cases h

theorem eqGuard_num {op : BinOp} {t : TypeId} {x y : Operand} {a b v : Value} {w : World} (h : binV op a b = some v) : (Go.eqGuard op t x y a b).run P w = .ok () w := by
  unfold Go.eqGuard
  unfold binV at h
  split at h <;> first
    | cases h; done
    | (simp; done)
    | simp

theorem run_binOp {o : Oper} {a : Act} {op : BinOp} {t u : TypeId} {x y : Operand} {w : World} (ho : o.op = .binOp op t x y u) :
    (execOp a.eval o).run P w = ((Go.eqGuard op t x y (a.eval x) (a.eval y)).run P w).andThen fun _ w' => ((binOp op t (a.eval x) (a.eval y)).run P w').andThen fun v w'' => .ok (.value v) w'' := by
  unfold execOp; simp only [ho, Sem.run_bind, Sem.run_pure]
  cases (Go.eqGuard op t x y (a.eval x) (a.eval y)).run P w <;> rfl


end Go.Dk
