/- The document's levels: a step. -/
import Derived.Test.YtdmncelglohmiaaYtXA
namespace Go.Dk
open Go Go.RowKit
set_option linter.unusedSimpArgs false
set_option linter.unusedVariables false
set_option maxRecDepth 100000

def bk (v : Ref33Level) : DepthLevel := ⟨v.Price, v.Qty, v.Orders⟩

theorem LSpec.price {side : Int} {ps : PQ} {ys : List DepthLevel} {v : DepthLevel} (h : LSpec side ps ys) (hv : v ∈ ys) : agg ps v.Price = some v := (h.2 v).1 hv
theorem LSpec.hit {side : Int} {ps : PQ} {as1 bs : List DepthLevel} {v : DepthLevel} (h : LSpec side ps (as1 ++ v :: bs)) (q : Int) :
    LSpec side (ps ++ [(v.Price, q)]) (as1 ++ (⟨v.Price, wr (v.Qty + q), wr (v.Orders + 1)⟩ : DepthLevel) :: bs) := by
  have hv : agg ps v.Price = some v := h.price (by simp)
  obtain ⟨h1, h2⟩ := h
  rw [List.pairwise_append, List.pairwise_cons] at h1
  obtain ⟨ha, ⟨hvb, hb⟩, hab⟩ := h1
  refine ⟨?_, fun u => ?_⟩
  · rw [List.pairwise_append, List.pairwise_cons]
    refine ⟨ha, ⟨hvb, hb⟩, fun a ha' b hb' => ?_⟩
    rcases List.mem_cons.1 hb' with hb' | hb'
    · subst hb'; exact hab a ha' v (by simp)
    · exact hab a ha' b (List.mem_cons_of_mem _ hb')
  · rw [agg_snoc, hv]
    have hua : ∀ u ∈ as1, u.Price ≠ v.Price := fun u hu e => by have := hab u hu v (by simp); rw [e, btr_irrefl] at this; cases this
    have hub : ∀ u ∈ bs, u.Price ≠ v.Price := fun u hu e => by have := hvb u hu; rw [e, btr_irrefl] at this; cases this
    have hold := h2 u
    simp only [List.mem_append, List.mem_cons] at hold ⊢
    by_cases hp : u.Price = v.Price
    · rw [if_pos hp]
      constructor
      · rintro (hu | hu | hu)
        · exact (hua u hu hp).elim
        · rw [hu]; rfl
        · exact (hub u hu hp).elim
      · intro hu; exact .inr (.inl (Option.some.inj hu).symm)
    · rw [if_neg hp, ← hold]
      constructor
      · rintro (hu | hu | hu)
        · exact .inl hu
        · exact (hp (by rw [hu])).elim
        · exact .inr (.inr hu)
      · rintro (hu | hu | hu)
        · exact .inl hu
        · exact (hp (by rw [hu])).elim
        · exact .inr (.inr hu)
theorem LSpec.miss {side : Int} {ps : PQ} {as1 bs : List DepthLevel} (h : LSpec side ps (as1 ++ bs)) (p q : Int) (hq : wr q = q) (ha : ∀ a ∈ as1, btr side a.Price p = true) (hb : ∀ b ∈ bs, btr side p b.Price = true) :
    LSpec side (ps ++ [(p, q)]) (as1 ++ (⟨p, q, 1⟩ : DepthLevel) :: bs) := by
  obtain ⟨h1, h2⟩ := h
  rw [List.pairwise_append] at h1
  obtain ⟨ga, gb, gab⟩ := h1
  have hua : ∀ u ∈ as1, u.Price ≠ p := fun u hu e => by have := ha u hu; rw [e, btr_irrefl] at this; cases this
  have hub : ∀ u ∈ bs, u.Price ≠ p := fun u hu e => by have := hb u hu; rw [e, btr_irrefl] at this; cases this
  have hno : agg ps p = none := by
    cases hg : agg ps p with
    | none => rfl
    | some v =>
      have hp := agg_price hg
      have hm := (h2 v).2 (by rw [hp]; exact hg)
      rcases List.mem_append.1 hm with hm | hm
      · exact (hua v hm hp).elim
      · exact (hub v hm hp).elim
  refine ⟨?_, fun u => ?_⟩
  · rw [List.pairwise_append, List.pairwise_cons]
    refine ⟨ga, ⟨hb, gb⟩, fun a ha' b hb' => ?_⟩
    rcases List.mem_cons.1 hb' with hb' | hb'
    · subst hb'; exact ha a ha'
    · exact gab a ha' b hb'
  · rw [agg_snoc, hno]
    have e1 : (⟨p, wr (((none : Option DepthLevel).getD ⟨0, 0, 0⟩).Qty + q), wr (((none : Option DepthLevel).getD ⟨0, 0, 0⟩).Orders + 1)⟩ : DepthLevel) = ⟨p, q, 1⟩ := by
      simp only [Option.getD_none, Int.zero_add]
      rw [hq]; rfl
    rw [e1]
    have hold := h2 u
    simp only [List.mem_append, List.mem_cons] at hold ⊢
    by_cases hp : u.Price = p
    · rw [if_pos hp]
      constructor
      · rintro (hu | hu | hu)
        · exact (hua u hu hp).elim
        · rw [hu]
        · exact (hub u hu hp).elim
      · intro hu; exact .inr (.inl (Option.some.inj hu).symm)
    · rw [if_neg hp, ← hold]
      constructor
      · rintro (hu | hu | hu)
        · exact .inl hu
        · exact (hp (by rw [hu])).elim
        · exact .inr hu
      · rintro (hu | hu)
        · exact .inl hu
        · exact .inr (.inr hu)

/-- the row that a price is at is found, and its level has more -/
theorem LSpec.set {side : Int} {ps : PQ} {outs : List Ref33Level} {k : Nat} (h : LSpec side ps (outs.map bk)) (hk : k < outs.length) (q : Int) :
    LSpec side (ps ++ [(outs[k].Price, q)]) ((outs.set k ⟨outs[k].Price, wr (outs[k].Qty + q), wr (outs[k].Orders + 1)⟩).map bk) := by
  have e : outs = outs.take k ++ outs[k] :: outs.drop (k + 1) := by rw [← List.drop_eq_getElem_cons hk, List.take_append_drop]
  have e2 : outs.map bk = (outs.take k).map bk ++ bk outs[k] :: (outs.drop (k + 1)).map bk := by rw [← List.map_cons, ← List.map_append, ← e]
  rw [e2] at h
  have h3 := h.hit q
  have e3 : (outs.set k ⟨outs[k].Price, wr (outs[k].Qty + q), wr (outs[k].Orders + 1)⟩).map bk = (outs.take k).map bk ++ bk ⟨outs[k].Price, wr (outs[k].Qty + q), wr (outs[k].Orders + 1)⟩ :: (outs.drop (k + 1)).map bk := by
    rw [List.set_eq_take_append_cons_drop, if_pos hk, List.map_append, List.map_cons]
  rw [e3]; exact h3
/-- a level more -/
theorem LSpec.ins {side : Int} {ps : PQ} {outs : List Ref33Level} {k : Nat} {p q : Int} (hs : side = 0 ∨ side = 1) (h : LSpec side ps (outs.map bk)) (hk : k ≤ outs.length) (hq : wr q = q)
    (hlow : ∀ (j : Nat) (hj : j < outs.length), j < k → outs[j].Price ≠ p ∧ btr side p outs[j].Price = false) (hhigh : ∀ hk : k < outs.length, btr side p outs[k].Price = true) :
    LSpec side (ps ++ [(p, q)]) ((outs.take k ++ [(⟨p, q, 1⟩ : Ref33Level)] ++ outs.drop k).map bk) := by
  have e : outs.map bk = (outs.take k).map bk ++ (outs.drop k).map bk := by rw [← List.map_append, List.take_append_drop]
  have h0 := h
  rw [e] at h
  have h3 := h.miss p q hq (fun a ha => by
    obtain ⟨x, hx, rfl⟩ := List.mem_map.1 ha
    obtain ⟨j, hj, rfl⟩ := List.getElem_of_mem hx
    rw [List.length_take] at hj
    obtain ⟨h1, h2⟩ := hlow j (by omega) (by omega)
    rw [List.getElem_take]
    exact btr_total hs h2 h1) (fun b hb => by
    obtain ⟨x, hx, rfl⟩ := List.mem_map.1 hb
    obtain ⟨j, hj, rfl⟩ := List.getElem_of_mem hx
    rw [List.length_drop] at hj
    have hh := hhigh (by omega)
    rw [List.getElem_drop]
    by_cases hj0 : j = 0
    · subst hj0; exact hh
    · have hp := h0.1
      rw [List.pairwise_map, List.pairwise_iff_getElem] at hp
      exact btr_trans hh (hp k (k + j) (by omega) (by omega) (by omega)))
  have e3 : (outs.take k ++ [(⟨p, q, 1⟩ : Ref33Level)] ++ outs.drop k).map bk = (outs.take k).map bk ++ (⟨p, q, 1⟩ : DepthLevel) :: (outs.drop k).map bk := by
    simp [bk]
  rw [e3]; exact h3
end Go.Dk
