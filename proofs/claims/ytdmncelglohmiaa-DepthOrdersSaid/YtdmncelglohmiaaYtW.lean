/- Levels, by lists: prices with what stands there. -/
import Derived.Test.YtdmncelglohmiaaYtV
import Derived.IntWalk
namespace Go.Dk
open Go Go.RowKit
set_option linter.unusedSimpArgs false
set_option linter.unusedVariables false

abbrev PQ := List (Int × Int)
def qsOf (ps : PQ) (p : Int) : List Int := (ps.filter fun x => x.1 == p).map (·.2)
noncomputable def agg (ps : PQ) (p : Int) : Option DepthLevel := if qsOf ps p = [] then none else some ⟨p, wr (qsOf ps p).sum, wr (qsOf ps p).length⟩
theorem qsOf_perm {ps ps' : PQ} (h : ps.Perm ps') (p : Int) : (qsOf ps p).Perm (qsOf ps' p) := (h.filter _).map _
theorem sum_perm {a b : List Int} (h : a.Perm b) : a.sum = b.sum := by
  induction h with
  | nil => rfl
  | cons x _ ih => simp [ih]
  | swap x y l => simp; omega
  | trans _ _ h1 h2 => exact h1.trans h2
theorem agg_perm {ps ps' : PQ} (h : ps.Perm ps') (p : Int) : agg ps p = agg ps' p := by
  have hq := qsOf_perm h p
  unfold agg
  by_cases h1 : qsOf ps p = []
  · rw [if_pos h1, if_pos (by rw [h1] at hq; exact hq.symm.eq_nil)]
  · rw [if_neg h1, if_neg (fun h2 => h1 (by rw [h2] at hq; exact hq.eq_nil)), sum_perm hq, hq.length_eq]
theorem agg_price {ps : PQ} {p : Int} {v : DepthLevel} (h : agg ps p = some v) : v.Price = p := by
  unfold agg at h; split at h
  · cases h
  · cases h; rfl

theorem wr_add (a b : Int) : wr (wr a + b) = wr (a + b) := by
  show IntKind.i64.wrap (IntKind.i64.wrap a + b) = IntKind.i64.wrap (a + b)
  rw [IntKind.wrap_i64, IntKind.wrap_i64, IntKind.wrap_i64]; omega

theorem agg_snoc (ps : PQ) (p q r : Int) : agg (ps ++ [(p, q)]) r = if r = p then some ⟨p, wr (((agg ps p).getD ⟨0, 0, 0⟩).Qty + q), wr (((agg ps p).getD ⟨0, 0, 0⟩).Orders + 1)⟩ else agg ps r := by
  by_cases h : r = p
  · subst h
    rw [if_pos rfl]
    have e : qsOf (ps ++ [(r, q)]) r = qsOf ps r ++ [q] := by simp [qsOf]
    unfold agg
    rw [e, if_neg (by simp)]
    by_cases h0 : qsOf ps r = []
    · rw [if_pos h0, h0]; simp
    · rw [if_neg h0]
      simp only [Option.getD_some]
      rw [wr_add, wr_add]
      simp [List.sum_append]
  · rw [if_neg h]
    have e : qsOf (ps ++ [(p, q)]) r = qsOf ps r := by
      have : ¬ (p = r) := fun e => h e.symm
      simp [qsOf, this]
    unfold agg; rw [e]

/-! ### in a map -/
def ieq (a b : Int) : Bool := a == b
noncomputable def pput (p q : Int) (xs : PM) : PM := kset ieq p (⟨p, wr (((kfind ieq p xs).getD ⟨0, 0, 0⟩).Qty + q), wr (((kfind ieq p xs).getD ⟨0, 0, 0⟩).Orders + 1)⟩ : DepthLevel) xs
def AggM (ps : PQ) (xs : PM) : Prop := (xs.map (·.1)).Nodup ∧ ∀ p, kfind ieq p xs = agg ps p

theorem kset_keys (p : Int) (v : DepthLevel) : ∀ xs : PM, (kset ieq p v xs).map (·.1) = if (kfind ieq p xs).isSome then xs.map (·.1) else xs.map (·.1) ++ [p]
  | [] => rfl
  | e :: r => by
    have ih := kset_keys p v r
    unfold kset kfind
    by_cases h : p = e.1
    · subst h; simp [ieq]
    · have h' : ieq p e.1 = false := by simp [ieq, h]
      unfold kfind at ih
      simp only [h', Bool.false_eq_true, if_false, List.map_cons, ih, List.find?_cons]
      split <;> simp_all
theorem kset_find (p : Int) (v : DepthLevel) (r : Int) : ∀ xs : PM, kfind ieq r (kset ieq p v xs) = if r = p then some v else kfind ieq r xs
  | [] => by
    by_cases h : r = p
    · subst h; simp [kset, kfind, ieq]
    · simp [kset, kfind, ieq, h]
  | e :: t => by
    have ih := kset_find p v r t
    unfold kset
    by_cases h : p = e.1
    · rw [if_pos (by simp [ieq, h])]
      by_cases hr : r = p
      · subst hr; simp [kfind, ieq]
      · have : ¬ r = e.1 := fun e' => hr (e'.trans h.symm)
        simp [kfind, ieq, hr, this]
    · rw [if_neg (by simp [ieq, h])]
      unfold kfind at ih ⊢
      by_cases hr : r = e.1
      · have : ¬ r = p := fun e' => h (e'.symm.trans hr)
        subst hr
        simp [ieq, this]
      · simp only [List.find?_cons, show ieq r e.1 = false by simp [ieq, hr]]
        exact ih
theorem kfind_none (p : Int) : ∀ xs : PM, kfind ieq p xs = none ↔ p ∉ xs.map (·.1)
  | [] => by simp [kfind]
  | e :: t => by
    have ih := kfind_none p t
    unfold kfind at ih ⊢
    by_cases h : p = e.1
    · subst h; simp [ieq]
    · simp only [List.find?_cons, show ieq p e.1 = false by simp [ieq, h], List.map_cons, List.mem_cons, h, false_or]
      exact ih
theorem kfind_mem (p : Int) (v : DepthLevel) : ∀ xs : PM, (xs.map (·.1)).Nodup → (kfind ieq p xs = some v ↔ (p, v) ∈ xs)
  | [], _ => by simp [kfind]
  | e :: t, hn => by
    rw [List.map_cons, List.nodup_cons] at hn
    have ih := kfind_mem p v t hn.2
    by_cases h : p = e.1
    · subst h
      constructor
      · intro h; simp [kfind, ieq] at h; subst h; exact List.mem_cons_self
      · intro h
        rcases List.mem_cons.1 h with h | h
        · have h2 : e.2 = v := by rw [← h]
          simp [kfind, ieq, h2]
        · exact (hn.1 (List.mem_map.2 ⟨_, h, rfl⟩)).elim
    · have e1 : kfind ieq p (e :: t) = kfind ieq p t := by simp [kfind, ieq, h]
      rw [e1, ih, List.mem_cons]
      constructor
      · exact .inr
      · rintro (h' | h')
        · exact (h (by rw [← h'])).elim
        · exact h'

theorem AggM.nil : AggM [] [] := ⟨by simp, fun p => by simp [kfind, agg, qsOf]⟩
theorem AggM.put {ps : PQ} {xs : PM} (h : AggM ps xs) (p q : Int) : AggM (ps ++ [(p, q)]) (pput p q xs) := by
  constructor
  · unfold pput
    rw [kset_keys]
    split
    · exact h.1
    · rename_i hn
      have : kfind ieq p xs = none := by simpa using hn
      rw [List.nodup_append]
      refine ⟨h.1, by simp, ?_⟩
      intro a ha b hb e
      subst e
      simp at hb; subst hb
      exact (kfind_none _ _).1 this ha
  · intro r
    unfold pput
    rw [kset_find, agg_snoc, h.2, h.2]

/-! ### levels -/
/-- levels of the pairs ps, the best one first -/
def LSpec (side : Int) (ps : PQ) (ys : List DepthLevel) : Prop := (ys.Pairwise fun x y => btr side x.Price y.Price = true) ∧ ∀ v, v ∈ ys ↔ agg ps v.Price = some v

theorem btr_irrefl (side p : Int) : btr side p p = false := by unfold btr; split <;> (try split) <;> simp
theorem btr_trans {side p q r : Int} (h1 : btr side p q = true) (h2 : btr side q r = true) : btr side p r = true := by
  unfold btr at *; split at h1
  · simp_all; omega
  · split at h1
    · simp_all; omega
    · cases h1
theorem btr_total {side p q : Int} (hs : side = 0 ∨ side = 1) (h : btr side q p = false) (hn : p ≠ q) : btr side p q = true := by
  rcases hs with rfl | rfl <;> simp_all [btr] <;> omega

theorem LSpec.unique {side : Int} {ps : PQ} : ∀ {xs ys : List DepthLevel}, LSpec side ps xs → LSpec side ps ys → xs = ys := by
  have gen : ∀ (xs ys : List DepthLevel), (xs.Pairwise fun x y => btr side x.Price y.Price = true) → (ys.Pairwise fun x y => btr side x.Price y.Price = true) → (∀ v, v ∈ xs ↔ v ∈ ys) → xs = ys := by
    intro xs
    induction xs with
    | nil =>
      intro ys _ _ h
      cases ys with
      | nil => rfl
      | cons y r => have := (h y).2 List.mem_cons_self; cases this
    | cons x r ih =>
      intro ys hx hy h
      cases ys with
      | nil => have := (h x).1 List.mem_cons_self; cases this
      | cons y t =>
        rw [List.pairwise_cons] at hx hy
        have hxy : x = y := by
          have h1 := (h x).1 List.mem_cons_self
          have h2 := (h y).2 List.mem_cons_self
          rcases List.mem_cons.1 h1 with h1 | h1
          · exact h1
          · rcases List.mem_cons.1 h2 with h2 | h2
            · exact h2.symm
            · have a := hy.1 x h1
              have b := hx.1 y h2
              have c := btr_trans a b
              rw [btr_irrefl] at c; cases c
        subst hxy
        congr 1
        refine ih t hx.2 hy.2 (fun v => ?_)
        have hv := h v
        rw [List.mem_cons, List.mem_cons] at hv
        constructor
        · intro hm
          rcases hv.1 (.inr hm) with h1 | h1
          · subst h1; have := hx.1 v hm; rw [btr_irrefl] at this; cases this
          · exact h1
        · intro hm
          rcases hv.2 (.inr hm) with h1 | h1
          · subst h1; have := hy.1 v hm; rw [btr_irrefl] at this; cases this
          · exact h1
  intro xs ys h1 h2
  exact gen xs ys h1.1 h2.1 fun v => (h1.2 v).trans (h2.2 v).symm

theorem LSpec.of_map {side : Int} {ps : PQ} {xs : PM} {ys : List DepthLevel} (hs : side = 0 ∨ side = 1) (h : AggM ps xs) (hp : ys.Perm (xs.map (·.2))) (hsort : SortedL side ys) : LSpec side ps ys := by
  have hpr : ∀ e ∈ xs, e.2.Price = e.1 := by
    intro e he
    have := (kfind_mem e.1 e.2 xs h.1).2 he
    rw [h.2] at this; exact agg_price this
  have hmem : ∀ v, v ∈ ys ↔ agg ps v.Price = some v := by
    intro v
    rw [hp.mem_iff, List.mem_map]
    constructor
    · rintro ⟨e, he, rfl⟩
      rw [← h.2, hpr e he]; exact (kfind_mem _ _ _ h.1).2 he
    · intro hv
      rw [← h.2] at hv
      exact ⟨_, (kfind_mem _ _ _ h.1).1 hv, rfl⟩
  refine ⟨?_, hmem⟩
  have hnd : (ys.map (·.Price)).Nodup := by
    have : (ys.map (·.Price)).Perm (xs.map (·.1)) := by
      refine (hp.map _).trans ?_
      rw [List.map_map]
      have : xs.map ((fun v : DepthLevel => v.Price) ∘ fun x => x.2) = xs.map (·.1) := List.map_congr_left fun e he => hpr e he
      rw [this]
    exact this.symm.nodup h.1
  have hne : ys.Pairwise fun x y => x.Price ≠ y.Price := by
    rw [List.nodup_iff_pairwise_ne, List.pairwise_map] at hnd; exact hnd
  exact (hsort.and hne).imp fun ⟨h1, h2⟩ => btr_total hs h1 h2
end Go.Dk
