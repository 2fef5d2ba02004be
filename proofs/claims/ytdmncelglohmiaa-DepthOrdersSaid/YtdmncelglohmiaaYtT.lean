/- Levels: a walk over a map's values, handed on. -/
import Derived.Test.YtdmncelglohmiaaYtQ
namespace Go.Dk
open Go Go.RowKit
set_option linter.unusedSimpArgs false
set_option linter.unusedVariables false
set_option maxRecDepth 100000

/-- no map, and no walk over one, is touched -/
def Keep (w w' : World) : Prop := ∀ k : Nat, ((∃ a b c d, w.heap[k]? = some (Obj.mapIter a b c d)) ∨ ∃ es c, w.heap[k]? = some (Obj.map es c)) → w'.heap[k]? = w.heap[k]?
def isIter (w : World) (r : Nat) : Prop := ∃ a b c d, w.heap[r]? = some (Obj.mapIter a b c d)
theorem iterAt.keep {LK LV : LTy} {w w' : World} {r m : Nat} {xs todo : List (LK.α × LV.α)} (h : iterAt LK LV w r m xs todo) (hk : Keep w w') : iterAt LK LV w' r m xs todo := by
  obtain ⟨l, c, seen, h1, h2, h3⟩ := h
  exact ⟨l, c, seen, by rw [hk r (.inl ⟨_, _, _, _, h1⟩)]; exact h1, by rw [hk m (.inr ⟨_, _, h2⟩)]; exact h2, h3⟩
theorem iterAt.is {LK LV : LTy} {w : World} {r m : Nat} {xs todo : List (LK.α × LV.α)} (h : iterAt LK LV w r m xs todo) : isIter w r := by
  obtain ⟨l, c, seen, h1, h2, h3⟩ := h
  exact ⟨_, _, _, _, h1⟩

abbrev PM := List (Int × DepthLevel)
def m2At (w : World) (m : Nat) (xs : PM) : Prop := mapAt (lInt .i64) lDepthLevel w m xs
def it2 (w : World) (r m : Nat) (xs todo : PM) : Prop := iterAt (lInt .i64) lDepthLevel w r m xs todo
theorem it2.ch {S : List Nat} {w w' : World} {r m : Nat} {xs todo : PM} (h : it2 w r m xs todo) (hc : Ch S w w') (hr : r ∉ S) (hm : m ∉ S) : it2 w' r m xs todo := iterAt.ch h hc hr hm
theorem it2.keep {w w' : World} {r m : Nat} {xs todo : PM} (h : it2 w r m xs todo) (hk : Keep w w') : it2 w' r m xs todo := iterAt.keep h hk
theorem it2.is {w : World} {r m : Nat} {xs todo : PM} (h : it2 w r m xs todo) : isIter w r := iterAt.is h
theorem m2_rng {w : World} {m : Nat} {xs : PM} (h : m2At w m xs) {K : Nat → World → Prop} (hk : ∀ r w', r = w.heap.size → Ch [] w w' → it2 w' r m xs xs → K r w') : mrng (some m) K w := mapAt.rng h hk
theorem m2_next {w : World} {r m : Nat} {xs todo : PM} (h : it2 w r m xs todo) {K0 : World → Prop} {K1 : Value → Value → World → Prop}
    (h0 : ∀ w', Ch [r] w w' → todo = [] → K0 w')
    (h1 : ∀ (k : Int) (v : DepthLevel) (rest : PM) w', Ch [r] w w' → todo.Perm ((k, v) :: rest) → it2 w' r m xs rest → (∀ K : Value → Value → World → Prop, K (.int .i64 k) (lDepthLevel.enc v) w' → mentry r K w') → K1 (.int .i64 k) (lDepthLevel.enc v) w') :
    mnx r K0 K1 w := iterAt.next h h0 h1

theorem P68 {K : Unit → World → Prop} {w : World} {p : Addr} {m : Nat} {xs : List (Int × DepthLevel)} {yv : Value} (hp : rdL w p 1 = some [.map (some m)]) (hm : m2At w m xs)
    (I : List DepthLevel → World → Prop) (h0 : I [] w)
    (hI0 : ∀ ys w w', I ys w → Ch [] w w' → I ys w')
    (hI : ∀ ys w1 w' r, w.heap.size ≤ r → I ys w1 → isIter w1 r → Ch [r] w1 w' → I ys w')
    (hy : ∀ ys (v : DepthLevel) w (K : Bool → World → Prop), I ys w → ys.length < xs.length → (∀ w', I (ys ++ [v]) w' → Keep w w' → K true w') → clW yc lBool yv [(.agg [(.int .i64 v.Price), (.int .i64 v.Qty), (.int .i64 v.Orders)].toArray)] K w)
    (hk : ∀ w' ys, I ys w' → ys.Perm (xs.map (·.2)) → K () w') : F68 K yv p w := by
  unfold F68
  rw [ld_map]
  refine ⟨_, hp, ?_⟩
  refine m2_rng hm fun r w1 hr hc1 hit => ?_
  intro X hX
  have loop : ∀ n (todo : List (Int × DepthLevel)) ys w, todo.length = n → I ys w → it2 w r m xs todo → (ys ++ todo.map (·.2)).Perm (xs.map (·.2)) → X () w := by
    intro n
    induction n with
    | zero =>
      intro todo ys w hn hi hit hp
      refine hX () w ?_
      refine m2_next hit (fun w' hc ht => ?_) (fun k v rest w' hc hp' hit' he => ?_)
      · rw [ht] at hp
        rw [List.map_nil, List.append_nil] at hp
        exact hk w' ys (hI _ _ _ _ (Nat.le_of_eq hr.symm) hi hit.is hc) hp
      · have := hp'.length_eq
        rw [List.length_cons] at this; omega
    | succ n ih =>
      intro todo ys w hn hi hit hp
      refine hX () w ?_
      refine m2_next hit (fun w' hc ht => ?_) (fun k v rest w' hc hp' hit' he => ?_)
      · have ht' : todo = [] := ht
        rw [ht'] at hn; cases hn
      · have hi' := hI _ _ _ _ (Nat.le_of_eq hr.symm) hi hit.is hc
        refine he _ ?_
        have hd : lDepthLevel.dec (lDepthLevel.enc v) = some v := rfl
        rw [hd]
        simp (disch := first | omega | (simp only [List.length_cons, List.length_nil]; omega))
        refine hy ys v _ _ (hI0 _ _ _ hi' (Ch.alloc _)) (by have := hp.length_eq; simp at this; have := hp'.length_eq; rw [List.length_cons] at this; omega) fun w2 h2 hk2 => ?_
        simp
        have hit2 : it2 w2 r m xs rest := (hit'.ch (S := []) (Ch.alloc _) (by simp) (by simp)).keep hk2
        refine ih rest (ys ++ [v]) w2 ?_ h2 hit2 ?_
        · have := hp'.length_eq
          rw [List.length_cons] at this; omega
        · have hq : (todo.map (·.2)).Perm (v :: rest.map (·.2)) := hp'.map (·.2)
          refine List.Perm.trans ?_ hp
          rw [List.append_assoc]
          exact (hq.symm.append_left ys)
  exact loop _ xs [] w1 rfl (hI0 _ _ _ h0 hc1) hit (by simp)
end Go.Dk
