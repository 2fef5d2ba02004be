/- Arguments of rows. -/
import Derived.Test.YtdmncelglohmiaaYtZ
import Derived.Test.YtdmncelglohmiaaRows
import Derived.WalkKit
import Derived.ProofKit
import Derived.OpenShut
import Derived.Below
import Derived.Deep.Slices
import Derived.Deep.Fields
import Derived.ChangeSame
namespace Go.Dk
open Go Go.ChangeShapes Go.WideShapes Go.ChangeAt Go.RowKit Go.Deep
set_option linter.unusedSimpArgs false
set_option linter.unusedVariables false

section
variable {H : Type} {enc : TypeId × Value → H} {P : Program} {w : World} {base : Nat} {spare : Nat → Bool} {held : Bool}
def intsF (P : Program) (fs : Array Field) : Bool := fs.toList.all fun f => match P.underlying f.type with | some (.int .i64) => true | _ => false

/-- the cells of a struct of ints -/
theorem trod_istruct {t : TypeId} {fs : Array Field} {fuel : Nat} {cs : List Value} {x : DataW H × List MemPlace} (hs : P.underlying t = some (.struct fs)) (hone : oneCellFields P fs = true) (hi : intsF P fs = true) (hC : P.cellsOf t = fs.size)
    (h : DataW.trod enc P w base spare held fuel t cs = some x) : ∃ ns : List Int, cs = ns.map (fun n => Value.int .i64 n) ∧ ns.length = fs.size := by
  obtain ⟨xs, n, _, _, hlen, hxl, hf⟩ := DataW.trod_struct hs h
  have key : ∀ j, j < fs.size → ∃ k, cs[j]? = some (.int .i64 k) := by
    intro j hj
    have hfj : fs[j]? = some fs[j] := Array.getElem?_eq_getElem hj
    have h1 := hf j _ hfj
    obtain ⟨ho, hk⟩ := hone_of hone j _ hfj
    have hxj : xs[j]? = some (xs[j]'(by omega)) := List.getElem?_eq_getElem (by omega)
    rw [ho, hk, hxj] at h1
    have hu : P.underlying fs[j].type = some (.int .i64) := by
      have := List.all_eq_true.1 hi fs[j] (by simp)
      split at this
      · assumption
      · cases this
    obtain ⟨k, hk1, _⟩ := DataW.trod_int hu h1
    refine ⟨k, ?_⟩
    have h2 : ((cs.drop j).take 1)[0]? = some (.int .i64 k) := by rw [hk1]; rfl
    rw [List.getElem?_take, if_pos (by omega), List.getElem?_drop] at h2
    simpa using h2
  have gen : ∀ (cs : List Value), (∀ j, j < cs.length → ∃ k, cs[j]? = some (.int .i64 k)) → ∃ ns : List Int, cs = ns.map (fun n => Value.int .i64 n) := by
    intro cs
    induction cs with
    | nil => intro _; exact ⟨[], rfl⟩
    | cons c r ih =>
      intro h
      obtain ⟨k, hk⟩ := h 0 (by simp)
      obtain ⟨ns, hns⟩ := ih (fun j hj => by have := h (j + 1) (by simpa using hj); simpa using this)
      simp at hk
      exact ⟨k :: ns, by rw [hk, hns]; rfl⟩
  obtain ⟨ns, hns⟩ := gen cs (fun j hj => key j (by omega))
  refine ⟨ns, hns, ?_⟩
  have := congrArg List.length hns
  simp at this
  omega

theorem open_istruct {r : Reach} {b0 : Nat} {t : TypeId} {fs : Array Field} {v : Value} {d : DataW H} {p : List MemPlace} (hs : P.underlying t = some (.struct fs)) (hone : oneCellFields P fs = true) (hi : intsF P fs = true) (hC : P.cellsOf t = fs.size)
    (hv : Value.okWide P w r b0 t v) (h : DataW.Trod enc P w base spare held t v d p) : ∃ ns : List Int, v = .agg (ns.map (fun n => Value.int .i64 n)).toArray ∧ ns.length = fs.size := by
  obtain ⟨cs, rfl, hsz⟩ := okWide_struct hs hv
  obtain ⟨fuel, hf⟩ := h
  obtain ⟨ns, h1, h2⟩ := trod_istruct hs hone hi hC hf
  refine ⟨ns, ?_, h2⟩
  have : cs.toList = ns.map (fun n => Value.int .i64 n) := by simpa [Value.cells] using h1
  rw [← this]
end
end Go.Dk
namespace Go.Proofs.Ytdmncelglohmiaa
open Go Go.Dk Go.ChangeShapes Go.WideShapes Go.ChangeAt Go.RowKit
theorem own : ownKnob Try.prog.godebug = none := by kernel_rfl
theorem laidOut : laidOutB Try.prog = true := by kernel_rfl

theorem msg_of {ns : List Int} (h : ns.length = 9) : ∃ m : ApiMsg, ns = [m.Kind, m.Sym, m.Seq, m.Tick, m.ID, m.With, m.Price, m.Qty, m.Code] := by
  match ns, h with
  | [a, b, c, d, e, f, g, i, j], _ => exact ⟨⟨a, b, c, d, e, f, g, i, j⟩, rfl⟩

theorem walk6 (m : ApiMsg) (a b : Int) (w : World) : Calls Try.prog 6 #[lApiMsg.enc m, .int .i64 a, .int .i64 b] w fun e w' => e = .returned (.bool true) ∧ Below w.heap.size w w' := by
  have := c6 (K := fun r w' => r = true ∧ Ch [] w w') m a b (w := w) (P6 fun w' h => ⟨rfl, h⟩)
  refine Calls.mono this fun e w' ⟨x, he, hx, hc⟩ => ?_
  subst hx
  exact ⟨he, hc.below⟩

set_option maxRecDepth 100000 in
theorem lifted6 (os : Os) (started : os.Started) (H : Type) (enc : TypeId × Value → H) :
    ReturnsInHanded {} Try.checked os 6 .any (Rows.depthNilsSpec.pre6 enc Try.prog Try.f6 Rows.depthNilsRow.domain false) (Rows.depthNilsSpec.post enc Try.prog Try.f6 false true false false) := by
  refine returnsInHanded_of_change (C := Try.checked) own started (by kernel_rfl) Try.func6
    (ChangeSpec.witness6 (enc := enc) (C := Try.checked) false ⟨#[], #[.agg #[.int .i64 0, .int .i64 0, .int .i64 0, .int .i64 0, .int .i64 0, .int .i64 0, .int .i64 0, .int .i64 0, .int .i64 0], .int .i64 0, .int .i64 0], []⟩ 8 (by kernel_rfl) (by kernel_rfl) (by kernel_rfl) (by kernel_rfl)) ?_
  intro W base args ds gs before hval0 hW hcnd _
  have hval : ∀ (j : Nat) t v, Try.f6.params[j]? = some t → args[j]? = some v → Value.okWide Try.prog W .any base t v := hval0
  have hW' := hW
  obtain ⟨p, q, hA0, hV, rfl, hfz, hnd⟩ := hW
  have hA : DataW.TrodAll enc Try.prog W 0 (fun _ => true) true Try.f6.params.toList args.toList ds p := hA0
  rw [Try.params6] at hA hval
  obtain ⟨v0, vs0, d0, ds0, p0, q0, hargs, rfl, rfl, h0, r0⟩ := trodAll_cons hA
  obtain ⟨v1, vs1, d1, ds1, p1, q1, rfl, rfl, rfl, h1, r1⟩ := trodAll_cons r0
  obtain ⟨v2, vs2, d2, ds2, p2, q2, rfl, rfl, rfl, h2, r2⟩ := trodAll_cons r1
  obtain ⟨rfl, rfl, rfl⟩ := trodAll_nil r2
  obtain rfl : args = #[v0, v1, v2] := by cases args; simp_all
  obtain ⟨rfl, rfl⟩ := trodVars_none hV
  have k0 := h0
  have lt0 : ∀ x ∈ p0, x.block < W.heap.size := by obtain ⟨m, hm⟩ := k0; exact DataW.trod_lt m _ _ _ hm
  obtain ⟨ns, rfl, hns⟩ := open_istruct Try.underlying33 (by kernel_rfl) (by kernel_rfl) (by kernel_rfl) (hval 0 33 v0 rfl rfl) h0
  obtain ⟨m, rfl⟩ := msg_of hns
  obtain ⟨a1, rfl, rfl, rfl, w1⟩ := open_int Try.underlying3 (hval 1 3 v1 rfl rfl) h1
  obtain ⟨a2, rfl, rfl, rfl, w2⟩ := open_int Try.underlying3 (hval 2 3 v2 rfl rfl) h2
  clear hA0 hval0
  refine (walk6 m a1 a2 W).mono fun e W' ⟨he, bel⟩ => ?_
  subst he
  exact ⟨_, rfl, _, _, _, [], _, [], hW', trodAll_mk1 (shut_bool Try.underlying4 _), (trodAll_cons_mk (Below.trod laidOut (by kernel_rfl) (of_decide_eq_true (by kernel_rfl)) k0 bel lt0) (trodAll_cons_mk (shut_int Try.underlying3 w1) (trodAll_cons_mk (shut_int Try.underlying3 w2) trodAll_mk0))), rfl, bel.frame _, fun h => by cases h⟩

theorem depthNils : Rows.DepthNilsSaid :=
  OpenClaim.holds_of_wide 6 Try.f6 rfl rfl rfl rfl rfl rfl rfl ⟨rfl, rfl, rfl, rfl, rfl⟩ rfl rfl rfl rfl rfl (by kernel_rfl) Try.func6 (by kernel_rfl)
    (of_decide_eq_true (by kernel_rfl)) (by unfold Func.isWrapper; first | (rw [if_pos (by decide +kernel)]; kernel_rfl) | (rw [if_neg (by decide +kernel)]; exact ⟨rfl, rfl⟩))
    (fun os started H enc _ => lifted6 os started H enc)
#print axioms depthNils
end Go.Proofs.Ytdmncelglohmiaa
