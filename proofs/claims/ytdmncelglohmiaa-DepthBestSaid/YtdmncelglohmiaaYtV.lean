/- Levels: sorted. -/
import Derived.Test.YtdmncelglohmiaaYtU
namespace Go.Dk
open Go Go.RowKit
set_option linter.unusedSimpArgs false
set_option linter.unusedVariables false
set_option maxRecDepth 100000

theorem q66 {K : Sl → World → Prop} {w : World} {a : Value} (h : F82 K ⟨none, 0, 0⟩ a w) : F66 K a w := c82 ⟨none, 0, 0⟩ a h
theorem q53 {K : Sl → World → Prop} {w : World} {a b : Value} (h : F66 (fun r w' => cl yp lUnit 67 [.slice r.a r.len r.cap, b].toArray (fun _ w'' => K r w'') w') a w) : F53 K a b w := c66 a h
theorem q37 {K : Sl → World → Prop} {w : World} {side : Int} {m : Nat}
    (h : F53 K (.func (.func 68) [].toArray [.pointer (some ⟨w.heap.size + 1, 0, none⟩)].toArray) (.func (.func 55) [].toArray [.pointer (some ⟨w.heap.size, 0, none⟩)].toArray) ((w.alloc (.cells [.int .i64 side].toArray 3)).alloc (.cells [.map (some m)].toArray 90))) : F37 K side (some m) w := by
  unfold F37
  refine newB_i ?_
  refine c54 _ ?_
  unfold F54
  refine newB_i ?_
  rw [World.size_alloc]
  exact c53 _ _ h

theorem P37 {K : Sl → World → Prop} {w : World} {side : Int} {m : Nat} {xs : PM} (hm : m2At w m xs) (hlen : xs.length ≤ 1073741824)
    (hk : ∀ w' s ys, Ch [] w w' → slOwn lDepthLevel w' s ys → fresh w.heap.size s → ys.Perm (xs.map (·.2)) → SortedL side ys → K s w') :
    F37 K side (some m) w := by
  have hmb := mapAt.lt hm
  refine q37 (q53 (q66 ?_))
  generalize hw2 : w.alloc (.cells [.int .i64 side].toArray 3) = w2
  have c1 : Ch [] w w2 := by rw [← hw2]; exact Ch.alloc _
  have hsz : w2.heap.size = w.heap.size + 1 := by rw [← hw2]; simp
  have hs1 : rdL w2 ⟨w.heap.size, 0, none⟩ 1 = some [.int .i64 side] := by rw [← hw2]; exact rdL_of (hp_new _ _) (Nat.le_refl 1)
  generalize hw3 : w2.alloc (.cells [.map (some m)].toArray 90) = w3
  have c2 : Ch [] w2 w3 := by rw [← hw3]; exact Ch.alloc _
  have hs2 : rdL w3 ⟨w.heap.size + 1, 0, none⟩ 1 = some [.map (some m)] := by rw [← hw3, ← hsz]; exact rdL_of (hp_new _ _) (Nat.le_refl 1)
  have hs3 := rdL_ch hs1 c2 (by simp)
  have hlt2 := rdL_lt hs1
  have hlt3 := rdL_lt hs3
  refine P82 hs2 (mapAt.ch hm (c1.trans c2) (by simp)) hlen fun w4 s ys k1 k2 k3 k4 => ?_
  have hnb : w.heap.size ∉ blks s := by
    intro hx
    cases hsa : s.a with
    | none => simp [blks, hsa] at hx
    | some q =>
      simp [blks, hsa] at hx
      have := k3 q hsa
      have h2 : w.heap.size < w3.heap.size := hlt3
      omega
  have hl : ys.length = xs.length := k4.length_eq.trans (List.length_map ..)
  refine P67 k2 (rdL_ch hs3 k1 (by simp)) hnb (by have h9 := hlen; have h8 := hl; show ys.length < 2305843009213693952; omega) fun w5 zs g1 g2 g3 g4 => ?_
  have hfr : ∀ k ∈ blks s, w.heap.size ≤ k := by
    intro k hx
    cases hsa : s.a with
    | none => simp [blks, hsa] at hx
    | some q =>
      simp [blks, hsa] at hx
      subst hx
      have := k3 q hsa
      have h2 : w.heap.size < w3.heap.size := hlt3
      omega
  refine hk w5 s zs (((c1.trans c2).trans k1).trans' g1 (fun x hx => .inr (hfr x hx))) g2 ?_ (g3.trans k4) g4
  intro q hq
  exact hfr q.block (by simp [blks, hq])
end Go.Dk
