/- The document's depth and the program's: the same rows. -/
import Derived.Test.YtdmncelglohmiaaYtRD
namespace Go.Dk
open Go Go.RowKit
set_option linter.unusedSimpArgs false
set_option linter.unusedVariables false
set_option maxRecDepth 100000

def Pos (rows : List Ref33Row) : Prop := ∀ r ∈ rows, r.O.Qty > 0
theorem keq_isR (sym id : Int) (r : Ref33Row) : lDepthKey.keq (⟨sym, id⟩ : DepthKey) (kvR r).1 = isR sym id r := by
  have h1 : lDepthKey.keq (⟨sym, id⟩ : DepthKey) (kvR r).1 = true ↔ isR sym id r = true := by
    rw [keq_lDepthKey]
    unfold isR kvR
    simp only [DepthKey.mk.injEq, Bool.and_eq_true, beq_iff_eq]
    constructor
    · rintro ⟨h1, h2⟩; exact ⟨h1.symm, h2.symm⟩
    · rintro ⟨h1, h2⟩; exact ⟨h1.symm, h2.symm⟩
  cases h2 : isR sym id r with
  | true => exact h1.2 h2
  | false =>
    cases h3 : lDepthKey.keq (⟨sym, id⟩ : DepthKey) (kvR r).1 with
    | true => rw [h1.1 h3] at h2; cases h2
    | false => rfl

theorem rfind_neg {sym id : Int} {rows : List Ref33Row} (h : rfind sym id rows < 0) : ∀ r ∈ rows, isR sym id r = false := by
  unfold rfind at h
  cases hx : rows.findIdx? (isR sym id) with
  | none => rw [List.findIdx?_eq_none_iff] at hx; exact hx
  | some i => rw [hx] at h; simp only at h; omega
theorem rfind_split {sym id : Int} {rows : List Ref33Row} (h : ¬ rfind sym id rows < 0) : ∃ as1 r bs, rows = as1 ++ r :: bs ∧ (∀ a ∈ as1, isR sym id a = false) ∧ isR sym id r = true ∧ rfind sym id rows = (as1.length : Int) := by
  unfold rfind at h ⊢
  cases hx : rows.findIdx? (isR sym id) with
  | none => rw [hx] at h; exact (h (by decide)).elim
  | some i =>
    rw [List.findIdx?_eq_some_iff_getElem] at hx
    obtain ⟨hi, hm, hno⟩ := hx
    refine ⟨rows.take i, rows[i], rows.drop (i + 1), ?_, ?_, hm, ?_⟩
    · rw [← List.drop_eq_getElem_cons hi, List.take_append_drop]
    · intro a ha
      obtain ⟨j, hj, rfl⟩ := List.getElem_of_mem ha
      rw [List.getElem_take]
      rw [List.length_take] at hj
      have := hno j (by omega)
      simpa using this
    · simp; omega

section
variable {α β : Type} (keq : α → α → Bool)
theorem gfind_miss (k : α) : ∀ (xs : List (α × β)), (∀ e ∈ xs, keq k e.1 = false) → kfind keq k xs = none
  | [], _ => rfl
  | e :: r, h => by
    have h1 := h e List.mem_cons_self
    have ih := gfind_miss k r (fun x hx => h x (List.mem_cons_of_mem _ hx))
    unfold kfind at ih ⊢
    rw [List.find?_cons, h1]; exact ih
theorem gfind_hit (k : α) (e : α × β) (bs : List (α × β)) (he : keq k e.1 = true) : ∀ (as1 : List (α × β)), (∀ e ∈ as1, keq k e.1 = false) → kfind keq k (as1 ++ e :: bs) = some e.2
  | [], _ => by unfold kfind; rw [List.nil_append, List.find?_cons, he]; rfl
  | a :: r, h => by
    have h1 := h a List.mem_cons_self
    have ih := gfind_hit k e bs he r (fun x hx => h x (List.mem_cons_of_mem _ hx))
    unfold kfind at ih ⊢
    rw [List.cons_append, List.find?_cons, h1]; exact ih
theorem gset_miss (k : α) (v : β) : ∀ (xs : List (α × β)), (∀ e ∈ xs, keq k e.1 = false) → kset keq k v xs = xs ++ [(k, v)]
  | [], _ => rfl
  | e :: r, h => by
    have h1 := h e List.mem_cons_self
    have ih := gset_miss k v r (fun x hx => h x (List.mem_cons_of_mem _ hx))
    rw [kset, if_neg (by rw [h1]; simp), ih]; rfl
theorem gset_hit (k : α) (v : β) (e : α × β) (bs : List (α × β)) (he : keq k e.1 = true) : ∀ (as1 : List (α × β)), (∀ e ∈ as1, keq k e.1 = false) → kset keq k v (as1 ++ e :: bs) = as1 ++ (k, v) :: bs
  | [], _ => by rw [List.nil_append, kset, if_pos he]; rfl
  | a :: r, h => by
    have h1 := h a List.mem_cons_self
    have ih := gset_hit k v e bs he r (fun x hx => h x (List.mem_cons_of_mem _ hx))
    rw [List.cons_append, kset, if_neg (by rw [h1]; simp), ih]; rfl
theorem gdel_hit (k : α) (e : α × β) (bs : List (α × β)) (he : keq k e.1 = true) : ∀ (as1 : List (α × β)), (∀ e ∈ as1, keq k e.1 = false) → kdel keq k (as1 ++ e :: bs) = as1 ++ bs
  | [], _ => by rw [List.nil_append, kdel, if_pos he]; rfl
  | a :: r, h => by
    have h1 := h a List.mem_cons_self
    have ih := gdel_hit k e bs he r (fun x hx => h x (List.mem_cons_of_mem _ hx))
    rw [List.cons_append, kdel, if_neg (by rw [h1]; simp), ih]; rfl
end
theorem kfind_miss (k : DepthKey) (xs : Rows1) (h : ∀ e ∈ xs, lDepthKey.keq k e.1 = false) : dfind k xs = none := gfind_miss lDepthKey.keq k xs h
theorem kfind_hit (k : DepthKey) (e : DepthKey × DepthRest) (bs : Rows1) (he : lDepthKey.keq k e.1 = true) (as1 : Rows1) (h : ∀ e ∈ as1, lDepthKey.keq k e.1 = false) : dfind k (as1 ++ e :: bs) = some e.2 := gfind_hit lDepthKey.keq k e bs he as1 h
theorem dset_miss (k : DepthKey) (v : DepthRest) (xs : Rows1) (h : ∀ e ∈ xs, lDepthKey.keq k e.1 = false) : dset k v xs = xs ++ [(k, v)] := gset_miss lDepthKey.keq k v xs h
theorem dset_hit (k : DepthKey) (v : DepthRest) (e : DepthKey × DepthRest) (bs : Rows1) (he : lDepthKey.keq k e.1 = true) (as1 : Rows1) (h : ∀ e ∈ as1, lDepthKey.keq k e.1 = false) : dset k v (as1 ++ e :: bs) = as1 ++ (k, v) :: bs := gset_hit lDepthKey.keq k v e bs he as1 h
theorem ddel_hit (k : DepthKey) (e : DepthKey × DepthRest) (bs : Rows1) (he : lDepthKey.keq k e.1 = true) (as1 : Rows1) (h : ∀ e ∈ as1, lDepthKey.keq k e.1 = false) : ddel k (as1 ++ e :: bs) = as1 ++ bs := gdel_hit lDepthKey.keq k e bs he as1 h

/-- the rest of the others is more than 0 -/
theorem zip_same (i q : Int) : ∀ (l : List Ref33Row) (n : Nat), (∀ k, n ≤ k → k < n + l.length → (k : Int) ≠ i) → ((l.zipIdx n).map fun p => atR i q p.2 p.1) = l
  | [], _, _ => rfl
  | r :: t, n, h => by
    rw [List.zipIdx_cons, List.map_cons, zip_same i q t (n + 1) (fun k h1 h2 => h k (by omega) (by simp; omega))]
    have : atR i q n r = r := by unfold atR; rw [if_neg (h n (Nat.le_refl _) (by simp))]
    rw [this]
theorem filter_pos {l : List Ref33Row} (h : Pos l) : (l.filter fun r => decide (r.O.Qty > 0)) = l := by
  rw [List.filter_eq_self]; intro r hr; simpa using h r hr
theorem restR_split {q : Int} {as1 bs : List Ref33Row} {r : Ref33Row} (h : Pos (as1 ++ r :: bs)) : restR (as1.length : Int) q (as1 ++ r :: bs) (as1 ++ r :: bs).length = as1 ++ (if (lessR q r).O.Qty > 0 then [lessR q r] else []) ++ bs := by
  have ha : Pos as1 := fun x hx => h x (List.mem_append.2 (.inl hx))
  have hb : Pos bs := fun x hx => h x (List.mem_append.2 (.inr (List.mem_cons_of_mem _ hx)))
  unfold restR
  rw [List.take_length, List.zipIdx_append, List.zipIdx_cons, List.map_append, List.map_cons, zip_same _ _ as1 0 (fun k h1 h2 => by omega), zip_same _ _ bs _ (fun k h1 h2 => by omega)]
  have e : atR (as1.length : Int) q (0 + as1.length) r = lessR q r := by unfold atR; rw [if_pos (by simp)]
  simp only [e]
  rw [List.filter_append, List.filter_cons, filter_pos ha, filter_pos hb]
  by_cases hq : (lessR q r).O.Qty > 0
  · simp [hq]
  · simp [hq]

theorem sim_less {sym id q : Int} {rows : List Ref33Row} (h : Pos rows) : (rless sym id q rows).1.map kvR = (dless ⟨sym, id⟩ q (rows.map kvR)).1 ∧ (rless sym id q rows).2 = (dless ⟨sym, id⟩ q (rows.map kvR)).2 ∧ Pos (rless sym id q rows).1 := by
  by_cases hneg : rfind sym id rows < 0
  · have hno := rfind_neg hneg
    have e1 : rless sym id q rows = (rows, false) := by unfold rless; rw [if_pos hneg]
    have e2 : dfind ⟨sym, id⟩ (rows.map kvR) = none := kfind_miss _ _ (fun e he => by
      obtain ⟨r, hr, rfl⟩ := List.mem_map.1 he
      rw [keq_isR]; exact hno r hr)
    have e3 : dless ⟨sym, id⟩ q (rows.map kvR) = (rows.map kvR, false) := by unfold dless; rw [e2]
    rw [e1, e3]; exact ⟨rfl, rfl, h⟩
  · obtain ⟨as1, r, bs, hrows, hno, hm, hidx⟩ := rfind_split hneg
    have e1 : rless sym id q rows = (as1 ++ (if (lessR q r).O.Qty > 0 then [lessR q r] else []) ++ bs, true) := by
      unfold rless; rw [if_neg hneg, hidx]; subst hrows; rw [restR_split h]
    have hno' : ∀ e ∈ as1.map kvR, lDepthKey.keq (⟨sym, id⟩ : DepthKey) e.1 = false := fun e he => by
      obtain ⟨x, hx, rfl⟩ := List.mem_map.1 he
      rw [keq_isR]; exact hno x hx
    have hm' : lDepthKey.keq (⟨sym, id⟩ : DepthKey) (kvR r).1 = true := by rw [keq_isR]; exact hm
    have hkey : (kvR r).1 = (⟨sym, id⟩ : DepthKey) := ((keq_lDepthKey _ _).1 hm').symm
    have hmap : rows.map kvR = as1.map kvR ++ kvR r :: bs.map kvR := by rw [hrows]; simp
    have e2 : dfind ⟨sym, id⟩ (rows.map kvR) = some (kvR r).2 := by rw [hmap]; exact kfind_hit _ _ _ hm' _ hno'
    have hpos : Pos (as1 ++ (if (lessR q r).O.Qty > 0 then [lessR q r] else []) ++ bs) := by
      intro x hx
      rcases List.mem_append.1 hx with hx | hx
      · rcases List.mem_append.1 hx with hx | hx
        · exact h x (by rw [hrows]; exact List.mem_append.2 (.inl hx))
        · split at hx
          · simp at hx; subst hx; assumption
          · cases hx
      · exact h x (by rw [hrows]; exact List.mem_append.2 (.inr (List.mem_cons_of_mem _ hx)))
    rw [e1]
    refine ⟨?_, ?_, hpos⟩
    · unfold dless
      rw [e2]
      simp only
      by_cases hq : wr (r.O.Qty - q) > 0
      · have hq' : (lessR q r).O.Qty > 0 := hq
        rw [if_pos hq', if_pos (show wr ((kvR r).2.qty - q) > 0 from hq), hmap, dset_hit _ _ _ _ hm' _ hno']
        have ek : kvR (lessR q r) = ((⟨sym, id⟩ : DepthKey), (⟨(kvR r).2.side, (kvR r).2.price, wr ((kvR r).2.qty - q)⟩ : DepthRest)) := by rw [← hkey]; rfl
        simp [ek]
      · have hq' : ¬ (lessR q r).O.Qty > 0 := hq
        rw [if_neg hq', if_neg (show ¬ wr ((kvR r).2.qty - q) > 0 from hq), hmap, ddel_hit _ _ _ hm' _ hno']
        simp
    · unfold dless; rw [e2]
end Go.Dk
