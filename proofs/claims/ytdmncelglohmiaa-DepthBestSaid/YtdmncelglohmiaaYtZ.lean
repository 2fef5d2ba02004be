/- Depth's laws: what comes at any rate; what a nil depth says. -/
import Derived.Test.YtdmncelglohmiaaYtY
import Derived.Test.YtdmncelglohmiaaYtA
namespace Go.Dk
open Go Go.RowKit
set_option linter.unusedSimpArgs false
set_option linter.unusedVariables false
set_option maxRecDepth 100000

def m10 : ApiMsg := ⟨1, 0, 0, 0, 1, 0, 10, 5, 0⟩
theorem dput10 : dput m10 [] = ([(⟨0, 1⟩, ⟨0, 10, 5⟩)], true) := by
  have h1 : dfind ⟨0, 1⟩ [] = none := rfl
  have h2 : dset ⟨0, 1⟩ ⟨0, 10, 5⟩ [] = [(⟨0, 1⟩, ⟨0, 10, 5⟩)] := rfl
  unfold dput m10
  simp [h1, h2]
theorem lspec10 : LSpec 0 (dsel 0 0 [(⟨0, 1⟩, ⟨0, 10, 5⟩)]) [⟨10, 5, 1⟩] := by
  have e : dsel 0 0 [((⟨0, 1⟩ : DepthKey), (⟨0, 10, 5⟩ : DepthRest))] = [(10, 5)] := rfl
  rw [e]
  refine ⟨by simp, fun v => ?_⟩
  have ha : ∀ p, agg [(10, 5)] p = if p = 10 then some ⟨10, 5, 1⟩ else none := by
    intro p
    by_cases h : p = 10
    · subst h; rfl
    · have : ¬ (10 : Int) = p := fun e => h e.symm
      simp [agg, qsOf, this, h]
  rw [ha, List.mem_singleton]
  constructor
  · rintro rfl; rfl
  · intro h
    split at h
    · exact (Option.some.inj h).symm
    · cases h

theorem P10 {K : Bool → World → Prop} {w : World} (hk : ∀ w', Ch [] w w' → K true w') : F10 K w := by
  unfold F10
  refine c11 (P11 fun bd bm w1 h1 hb1 hb2 hd => ?_)
  refine c12 (some ⟨bd, 0, none⟩) m10 (P12 hd fun w2 h2 hd2 => ?_)
  rw [dput10] at hd2 ⊢
  have h12 : Ch [] w w2 := h1.trans' h2 (by simp; exact hb2)
  refine c16 _ _ _ _ (P16 hd2 (by simp) (.inl (.inl rfl)) fun w3 s ys h3 h4 h5 h6 _ => ?_)
  have hy : ys = [⟨10, 5, 1⟩] := h4.unique lspec10
  subst hy
  have h5 : slOwn lDepthLevel w3 s [(⟨10, 5, 1⟩ : DepthLevel)] := h5
  intro X hX
  have e : (((s.len : Nat) : Int) == 1) = true := by rw [h5.1]; rfl
  simp only [onB_true, e]
  refine idx_i (L := lDepthLevel) (k := 3) (i := 0) (y := (⟨10, 5, 1⟩ : DepthLevel)) h5.at rfl (by decide) (by decide) rfl ?_
  refine hX _ _ ?_
  have : lDepthLevel.keq (⟨10, 5, 1⟩ : DepthLevel) (⟨10, 5, 1⟩ : DepthLevel) = true := (keq_lDepthLevel _ _).2 rfl
  rw [this]
  exact hk _ (h12.trans h3)

theorem P6 {K : Bool → World → Prop} {w : World} {m : ApiMsg} {a b : Int} (hk : ∀ w', Ch [] w w' → K true w') : F6 K m a b w := by
  unfold F6
  refine newB_i ?_
  have hm := hp_new w (.cells [(.int .i64 m.Kind), (.int .i64 m.Sym), (.int .i64 m.Seq), (.int .i64 m.Tick), (.int .i64 m.ID), (.int .i64 m.With), (.int .i64 m.Price), (.int .i64 m.Qty), (.int .i64 m.Code)].toArray 33)
  have c1 : Ch [] w (w.alloc (.cells [(.int .i64 m.Kind), (.int .i64 m.Sym), (.int .i64 m.Seq), (.int .i64 m.Tick), (.int .i64 m.ID), (.int .i64 m.With), (.int .i64 m.Price), (.int .i64 m.Qty), (.int .i64 m.Code)].toArray 33)) := Ch.alloc _
  generalize (w.alloc (.cells [(.int .i64 m.Kind), (.int .i64 m.Sym), (.int .i64 m.Seq), (.int .i64 m.Tick), (.int .i64 m.ID), (.int .i64 m.With), (.int .i64 m.Price), (.int .i64 m.Qty), (.int .i64 m.Code)].toArray 33)) = w1 at hm c1 ⊢
  have hb := hp_lt hm
  refine ld_int.2 ⟨m.Sym, rdL_of (b := w.heap.size) (off := 1) hm (by simp), ?_⟩
  refine c20 none _ _ (P20n fun w2 h2 => ?_)
  refine newB_i ?_
  rw [st_new rfl (by simp)]
  have c2 := h2.alloc' (.cells (wrt [Value.int .i64 0, .int .i64 0, .int .i64 0] 0 [.int .i64 (0 : Int), .int .i64 (0 : Int), .int .i64 (0 : Int)]).toArray 48)
  have hm2 := hp_ch c2 hm (by simp)
  refine ld_int.2 ⟨m.Sym, rdL_of (b := w.heap.size) (off := 1) hm2 (by simp), ?_⟩
  refine c21 none _ (P21n fun w3 h3 => ?_)
  have c3 := c2.trans h3
  have hm3 := hp_ch c3 hm (by simp)
  intro X hX
  refine ld_i (L := lApiMsg) (m : ApiMsg) hm3 rfl rfl (Nat.le_refl 9) ?_
  refine c12 none m (P12n fun w4 h4 => ?_)
  have c4 := c3.trans h4
  have hm4 := hp_ch c4 hm (by simp)
  simp only [Bool.not_false, onB_true]
  refine ld_int.2 ⟨m.Sym, rdL_of (b := w.heap.size) (off := 1) hm4 (by simp), ?_⟩
  refine c16 none _ _ _ (P16n ?_)
  simp only [show ((((⟨none, 0, 0⟩ : Sl).len : Nat) : Int) == 0) = true from rfl, Bool.not_false, onB_true, show ((0 : Int) == 0) = true from rfl]
  exact c10 (P10 fun w5 h5 => hX _ _ (hk _ ((c1.trans c4).trans h5)))
end Go.Dk
