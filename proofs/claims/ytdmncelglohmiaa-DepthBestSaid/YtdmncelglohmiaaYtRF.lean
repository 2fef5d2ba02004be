/- The document's depth and the program's: what is put. -/
import Derived.Test.YtdmncelglohmiaaYtRE
namespace Go.Dk
open Go Go.RowKit
set_option linter.unusedSimpArgs false
set_option linter.unusedVariables false
set_option maxRecDepth 100000

theorem dfind_iff {sym id : Int} {rows : List Ref33Row} : (dfind ⟨sym, id⟩ (rows.map kvR)).isSome = decide (0 ≤ rfind sym id rows) := by
  by_cases hneg : rfind sym id rows < 0
  · have hno := rfind_neg hneg
    rw [kfind_miss _ _ (fun e he => by
      obtain ⟨r, hr, rfl⟩ := List.mem_map.1 he
      rw [keq_isR]; exact hno r hr)]
    simp; exact hneg
  · obtain ⟨as1, r, bs, hrows, hno, hm, hidx⟩ := rfind_split hneg
    have hmap : rows.map kvR = as1.map kvR ++ kvR r :: bs.map kvR := by rw [hrows]; simp
    rw [hmap, kfind_hit _ _ _ (by rw [keq_isR]; exact hm) _ (fun e he => by
      obtain ⟨x, hx, rfl⟩ := List.mem_map.1 he
      rw [keq_isR]; exact hno x hx)]
    simp; omega

theorem sim_put {m : ApiMsg} {rows : List Ref33Row} (h : Pos rows) : (rput m rows).1.map kvR = (dput m (rows.map kvR)).1 ∧ (rput m rows).2 = (dput m (rows.map kvR)).2 ∧ Pos (rput m rows).1 := by
  unfold rput dput
  by_cases k1 : m.Kind = 1
  · rw [if_pos k1, if_pos k1]
    by_cases hc : m.Qty < 1 ∨ ¬ (m.Code = 0 ∨ m.Code = 1) ∨ m.Price < 1 ∨ m.Price > 1099511627776 ∨ 0 ≤ rfind m.Sym m.ID rows
    · rw [if_pos hc, if_pos]
      · exact ⟨rfl, rfl, h⟩
      · rw [dfind_iff]
        rcases hc with g | g | g | g | g
        · exact .inr (.inl g)
        · exact .inr (.inr (.inl g))
        · exact .inr (.inr (.inr (.inl g)))
        · exact .inr (.inr (.inr (.inr g)))
        · exact .inl (by simpa using g)
    · rw [if_neg hc, if_neg]
      · have hneg : rfind m.Sym m.ID rows < 0 := by
          rcases Int.lt_or_le (rfind m.Sym m.ID rows) 0 with g | g
          · exact g
          · exact (hc (.inr (.inr (.inr (.inr g))))).elim
        have hno := rfind_neg hneg
        refine ⟨?_, rfl, ?_⟩
        · rw [dset_miss _ _ _ (fun e he => by
            obtain ⟨r, hr, rfl⟩ := List.mem_map.1 he
            rw [keq_isR]; exact hno r hr)]
          simp [kvR, newRow]
        · intro r hr
          rcases List.mem_append.1 hr with hr | hr
          · exact h r hr
          · simp at hr; subst hr
            show m.Qty > 0
            rcases Int.lt_or_le m.Qty 1 with g | g
            · exact (hc (.inl g)).elim
            · omega
      · rw [dfind_iff]
        rintro (g | g | g | g | g)
        · exact hc (.inr (.inr (.inr (.inr (by simpa using g)))))
        · exact hc (.inl g)
        · exact hc (.inr (.inl g))
        · exact hc (.inr (.inr (.inl g)))
        · exact hc (.inr (.inr (.inr (.inl g))))
  · rw [if_neg k1, if_neg k1]
    by_cases k3 : m.Kind = 3
    · rw [if_pos k3, if_pos k3]
      by_cases hq : m.Qty < 1
      · rw [if_pos hq, if_pos hq]; exact ⟨rfl, rfl, h⟩
      · rw [if_neg hq, if_neg hq]
        obtain ⟨a1, a2, a3⟩ := sim_less (sym := m.Sym) (id := m.ID) (q := m.Qty) h
        by_cases hc : m.Code ≠ 1
        · simp only [if_pos hc]
          obtain ⟨b1, b2, b3⟩ := sim_less (sym := m.Sym) (id := m.With) (q := m.Qty) a3
          rw [a1] at b1 b2
          exact ⟨b1, by rw [a2, b2], b3⟩
        · simp only [if_neg hc]
          exact ⟨a1, a2, a3⟩
    · rw [if_neg k3, if_neg k3]
      by_cases k4 : m.Kind = 4
      · rw [if_pos k4, if_pos k4]
        by_cases hneg : rfind m.Sym m.ID rows < 0
        · have hno := rfind_neg hneg
          rw [kfind_miss _ _ (fun e he => by
            obtain ⟨r, hr, rfl⟩ := List.mem_map.1 he
            rw [keq_isR]; exact hno r hr)]
          split
          · rw [if_neg (by omega)]; exact ⟨rfl, rfl, h⟩
          · exact ⟨rfl, rfl, h⟩
        · obtain ⟨as1, r, bs, hrows, hno, hm, hidx⟩ := rfind_split hneg
          have hmap : rows.map kvR = as1.map kvR ++ kvR r :: bs.map kvR := by rw [hrows]; simp
          have e1 : dfind ⟨m.Sym, m.ID⟩ (rows.map kvR) = some (kvR r).2 := by
            rw [hmap]
            exact kfind_hit _ _ _ (by rw [keq_isR]; exact hm) _ (fun e he => by
              obtain ⟨x, hx, rfl⟩ := List.mem_map.1 he
              rw [keq_isR]; exact hno x hx)
          have e2 : rows[(rfind m.Sym m.ID rows).toNat]? = some r := by
            rw [hidx, Int.toNat_natCast]; subst hrows; simp
          rw [e1, e2]
          simp only
          rw [if_pos (by omega)]
          exact sim_less h
      · rw [if_neg k4, if_neg k4]; exact ⟨rfl, rfl, h⟩
end Go.Dk
