/- Depth: levels of orders. -/
import Derived.Test.YtdmncelglohmiaaYtRF
namespace Go.Dk
open Go Go.RowKit
set_option linter.unusedSimpArgs false
set_option linter.unusedVariables false
set_option maxRecDepth 100000

def opq (o : ApiOrder) : Int × Int := (o.Price, o.Qty)
theorem LSpec.nil (side : Int) : LSpec side [] [] := ⟨List.Pairwise.nil, fun v => ⟨fun h => (by cases h), fun h => by simp [agg, qsOf] at h⟩⟩

theorem P18 {K : Sl → World → Prop} {w : World} {ad : Addr} {s : Sl} {l : List ApiOrder} {side : Int} (hl : slAt lApiOrder w s l) (hlen : l.length ≤ 1073741824) (hs : side = 0 ∨ side = 1) (hsd : ∀ o ∈ l, o.Side = side)
    (hk : ∀ w' s' ys, Ch [] w w' → LSpec side (l.map opq) ys → slOwn lDepthLevel w' s' ys → fresh w.heap.size s' → ys.length ≤ l.length → K s' w') : F18 K (some ad) s w := by
  have hlt := hl.lt
  have hsl : s.len = l.length := hl.1
  unfold F18
  intro X hX
  simp only [Option.isNone_some, onB_false]
  refine hX _ _ ?_
  by_cases h0 : l = []
  · subst h0
    have e : (((s.len : Nat) : Int) == 0) = true := by rw [hsl]; rfl
    rw [e, onB_true]
    exact hk w _ [] (Ch.refl _ _) (LSpec.nil side) slOwn.nil nofun (Nat.le_refl _)
  · have hpos : 0 < l.length := List.length_pos_iff.2 h0
    have e : (((s.len : Nat) : Int) == 0) = false := by rw [hsl]; simp; exact h0
    rw [e, onB_false]
    refine newB_i ?_
    have c1 : Ch [] w (w.alloc (.map #[] 0)) := Ch.alloc _
    have hm0 : m2At (w.alloc (.map #[] 0)) w.heap.size [] := mapAt.new
    generalize w.alloc (.map #[] 0) = w1 at c1 hm0 ⊢
    have hb : w.heap.size < w1.heap.size := mapAt.lt hm0
    intro Y hY
    have loop : ∀ n i : Nat, i + n = l.length → ∀ (zs : PM) (w2 : World), Ch [] w w2 → m2At w2 w.heap.size zs → AggM ((l.take i).map opq) zs → zs.length ≤ i → Y (i : Int) w2 := by
      intro n
      induction n with
      | zero =>
        intro i hi zs w2 hc hz hag hzl
        have hi' : i = l.length := by omega
        refine hY _ _ ?_
        have e1 : decide ((i : Int) < ((s.len : Nat) : Int)) = false := by simp; omega
        simp only [e1, onB_false]
        have hl2 := hl.ch hc (by simp)
        refine idx_p (L := lApiOrder) (k := 7) (i := 0) (y := l[0]) (G := fun q => ld (lInt .i64) (q.add 2) _ w2) hl2 rfl (by decide) (by decide) (List.getElem?_eq_getElem hpos) fun q hq => ?_
        refine ld_int.2 ⟨l[0].Side, rdL_sub (off := 2) (k := 1) hq (by decide), ?_⟩
        rw [hsd l[0] (List.getElem_mem _)]
        refine c37 _ _ (P37 hz (by omega) fun w3 s' ys k1 k2 k3 k4 k5 => ?_)
        rw [hi', List.take_length] at hag
        exact hk w3 s' ys (hc.trans k1) (LSpec.of_map hs hag k4 k5) k2 (fun q hq => Nat.le_trans hc.size (k3 q hq)) (by have h1 : ys.length = zs.length := k4.length_eq.trans (List.length_map ..); exact Nat.le_trans (Nat.le_of_eq h1) (by omega))
      | succ n ih =>
        intro i hi zs w2 hc hz hag hzl
        have hil : i < l.length := by omega
        refine hY _ _ ?_
        have e1 : decide ((i : Int) < ((s.len : Nat) : Int)) = true := by simp; omega
        simp only [e1, onB_true]
        have hl2 := hl.ch hc (by simp)
        have hy : l[((i : Int)).toNat]? = some l[i] := by rw [Int.toNat_natCast]; exact List.getElem?_eq_getElem hil
        refine idx_i (L := lApiOrder) (k := 7) (y := l[i]) hl2 rfl (by decide) (by omega) hy ?_
        refine newB_i ?_
        rw [st_new rfl (by simp)]
        have ew : IntKind.i64.wrap ((i : Int) + 1) = ((i + 1 : Nat) : Int) := by
          rw [IntWalk.i64_in _ (by omega)]; rfl
        rw [ew]
        simp (disch := first | omega | (simp only [List.length_cons, List.length_nil]; omega))
        refine c36 (some w.heap.size) _ _ (P36 (mapAt.ch (S := []) hz (Ch.alloc _) (by simp)) fun w4 g1 g2 => ?_)
        refine ih (i + 1) (by omega) _ w4 ((hc.alloc' _).trans' g1 (by simp)) g2 ?_ ?_
        · have := hag.put l[i].Price l[i].Qty
          rw [List.take_succ_eq_append_getElem hil, List.map_append]
          exact this
        · have := pput_len l[i].Price l[i].Qty zs
          omega
    exact loop l.length 0 (by omega) [] w1 c1 hm0 AggM.nil (by simp)
end Go.Dk
