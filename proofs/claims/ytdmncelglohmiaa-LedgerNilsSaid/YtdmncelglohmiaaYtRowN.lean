/- LedgerNils is proved: for any message the law returns true, and its argument reads as before. -/
import Derived.Test.YtdmncelglohmiaaYtLE
import Derived.Test.YtdmncelglohmiaaDkArg
import Derived.Test.YtdmncelglohmiaaRows
namespace Go.Proofs.Ytdmncelglohmiaa
open Go Go.Dk Go.ChangeShapes Go.WideShapes Go.ChangeAt Go.RowKit Go.Deep
set_option linter.unusedSimpArgs false
set_option linter.unusedVariables false
theorem own : ownKnob Try.prog.godebug = none := by kernel_rfl
theorem laidOut : laidOutB Try.prog = true := by kernel_rfl
theorem exApiMsg {c : List Int} (h : c.length = 9) : ∃ m : ApiMsg, c = [m.Kind, m.Sym, m.Seq, m.Tick, m.ID, m.With, m.Price, m.Qty, m.Code] := by
  match c, h with
  | [x0, x1, x2, x3, x4, x5, x6, x7, x8], _ => exact ⟨⟨x0, x1, x2, x3, x4, x5, x6, x7, x8⟩, rfl⟩

theorem walk8 (m0 : ApiMsg) {w : World}  : Calls Try.prog 8 #[lApiMsg.enc m0] w fun e w' => e = .returned (.bool true) ∧ Below w.heap.size w w' := by
  have := c8 (K := fun r w' => r = true ∧ Ch [] w w') m0 (w := w) (P8 fun w' h => ⟨rfl, h⟩)
  refine Calls.mono this fun e w' ⟨x, he, hx, hc⟩ => ?_
  subst hx
  exact ⟨he, hc.below⟩

set_option maxRecDepth 100000 in
theorem lifted8 (os : Os) (started : os.Started) (H : Type) (enc : TypeId × Value → H) :
    ReturnsInHanded {} Try.checked os 8 .any (Rows.ledgerNilsSpec.pre6 enc Try.prog Try.f8 Rows.ledgerNilsRow.domain false) (Rows.ledgerNilsSpec.post enc Try.prog Try.f8 false true false false) := by
  refine returnsInHanded_of_change (C := Try.checked) own started (by kernel_rfl) Try.func8
    (ChangeSpec.witness6 (enc := enc) (C := Try.checked) false ⟨#[], #[.agg #[.int .i64 0, .int .i64 0, .int .i64 0, .int .i64 0, .int .i64 0, .int .i64 0, .int .i64 0, .int .i64 0, .int .i64 0]], []⟩ 8 (by kernel_rfl) (by kernel_rfl) (by kernel_rfl) (by kernel_rfl)) ?_
  intro W base args ds gs before hval0 hW hcnd _
  have hval : ∀ (j : Nat) t v, Try.f8.params[j]? = some t → args[j]? = some v → Value.okWide Try.prog W .any base t v := hval0
  have hW' := hW
  obtain ⟨p, q, hA0, hV, rfl, hfz, hnd⟩ := hW
  have hA : DataW.TrodAll enc Try.prog W 0 (fun _ => true) true Try.f8.params.toList args.toList ds p := hA0
  rw [Try.params8] at hA hval
  obtain ⟨v0, vs0, d0, ds0, p0, q0, hargs, rfl, rfl, h0, r0⟩ := trodAll_cons hA
  obtain ⟨rfl, rfl, rfl⟩ := trodAll_nil r0
  obtain rfl : args = #[v0] := by cases args; simp_all
  obtain ⟨rfl, rfl⟩ := trodVars_none hV
  have k0 := h0
  have lt0 : ∀ x ∈ p0, x.block < W.heap.size := by obtain ⟨m, hm⟩ := k0; exact DataW.trod_lt m _ _ _ hm
  obtain ⟨ns0, rfl, hn0, _⟩ := open_istruct Try.underlying33 (by kernel_rfl) (by kernel_rfl) (by kernel_rfl) (hval 0 33 v0 rfl rfl) h0
  obtain ⟨m0, rfl⟩ := exApiMsg hn0
  clear hA0 hval0
  refine (walk8 m0 (w := W) ).mono fun e W' ⟨he, bel⟩ => ?_
  subst he
  exact ⟨_, rfl, _, _, _, [], _, [], hW', trodAll_mk1 (shut_bool Try.underlying4 _), (trodAll_cons_mk (Below.trod laidOut (by kernel_rfl) (of_decide_eq_true (by kernel_rfl)) k0 bel lt0) trodAll_mk0), rfl, bel.frame _, fun h => by cases h⟩

theorem ledgerNils : Rows.LedgerNilsSaid :=
  OpenClaim.holds_of_wide 8 Try.f8 rfl rfl rfl rfl rfl rfl rfl ⟨rfl, rfl, rfl, rfl, rfl⟩ rfl rfl rfl rfl rfl (by kernel_rfl) Try.func8 (by kernel_rfl)
    (of_decide_eq_true (by kernel_rfl)) (by unfold Func.isWrapper; first | (rw [if_pos (by decide +kernel)]; kernel_rfl) | (rw [if_neg (by decide +kernel)]; exact ⟨rfl, rfl⟩))
    (fun os started H enc _ => lifted8 os started H enc)
#print axioms ledgerNils
end Go.Proofs.Ytdmncelglohmiaa
