/- Best, Spread. -/
import Derived.Test.YtdmncelglohmiaaYtX
namespace Go.Dk
open Go Go.RowKit
set_option linter.unusedSimpArgs false
set_option linter.unusedVariables false
set_option maxRecDepth 100000

theorem P16n {K : Sl → World → Prop} {w : World} {a b c : Int} (hk : K ⟨none, 0, 0⟩ w) : F16 K none a b c w := by
  unfold F16; exact hk
def best (ys : List DepthLevel) : DepthLevel × Bool := match ys with | [] => (⟨0, 0, 0⟩, false) | y :: _ => (y, true)

/-- the tail of Best -/
theorem P20t {K : (DepthLevel × Bool) → World → Prop} {w : World} {b : Nat} {s : Sl} {ys : List DepthLevel} (hb : w.heap[b]? = some (.cells [.int .i64 0, .int .i64 0, .int .i64 0].toArray 48)) (hs : slOwn lDepthLevel w s ys)
    (hk : ∀ w', Ch [b] w w' → K (best ys) w') :
    (onB (((s.len : Nat) : Int) == 0) (ld lDepthLevel (⟨b, 0, none⟩ : Addr) (fun (v5 : DepthLevel) w6 =>
     (st (⟨b, 0, none⟩ : Addr) [(.int .i64 v5.Price), (.int .i64 v5.Qty), (.int .i64 v5.Orders)] (fun w7 =>
     (ld lDepthLevel (⟨b, 0, none⟩ : Addr) (fun (v8 : DepthLevel) w9 =>
     (K (v8, false) w9)) w7)) w6)) w) ((0 : Int) ≤ 0 ∧ 0 < ((s.len : Nat) : Int) ∧ onO s.a fun p10 =>
     (ld lDepthLevel (p10.add ((0 : Int).toNat * 3)) (fun (v11 : DepthLevel) w12 =>
     (st (⟨b, 0, none⟩ : Addr) [(.int .i64 v11.Price), (.int .i64 v11.Qty), (.int .i64 v11.Orders)] (fun w13 =>
     (ld lDepthLevel (⟨b, 0, none⟩ : Addr) (fun (v14 : DepthLevel) w15 =>
     (K (v14, true) w15)) w13)) w12)) w))) := by
  have hl : s.len = ys.length := hs.1
  cases ys with
  | nil =>
    have e : (((s.len : Nat) : Int) == 0) = true := by rw [hl]; rfl
    rw [e, onB_true]
    refine ld_i (L := lDepthLevel) (⟨0, 0, 0⟩ : DepthLevel) hb rfl rfl (Nat.le_refl 3) ?_
    refine st_i hb rfl (by simp) ?_
    exact ld_i (L := lDepthLevel) (⟨0, 0, 0⟩ : DepthLevel) (hp_put_eq hb) rfl rfl (Nat.le_refl 3) (hk _ (Ch.put _ _ (.inl (by simp))))
  | cons y r =>
    have e : (((s.len : Nat) : Int) == 0) = false := by rw [hl]; simp; omega
    rw [e, onB_false]
    refine idx_i (L := lDepthLevel) (k := 3) (i := 0) (y := y) hs.at rfl (by decide) (by decide) rfl ?_
    refine st_i hb rfl (by simp) ?_
    exact ld_i (L := lDepthLevel) (y : DepthLevel) (hp_put_eq hb) rfl rfl (Nat.le_refl 3) (hk _ (Ch.put _ _ (.inl (by simp))))

theorem P20n {K : (DepthLevel × Bool) → World → Prop} {w : World} {sym side : Int} (hk : ∀ w', Ch [] w w' → K (⟨0, 0, 0⟩, false) w') : F20 K none sym side w := by
  unfold F20
  refine newB_i ?_
  refine c16 none _ _ _ (P16n ?_)
  refine P20t (ys := []) (hp_new _ _) slOwn.nil fun w' hc => hk w' ((Ch.alloc _).trans' hc (by simp))

theorem P20 {K : (DepthLevel × Bool) → World → Prop} {w : World} {bd bm : Nat} {xs : Rows1} {sym side : Int} (hd : DAt w bd bm xs) (hlen : xs.length ≤ 1073741824) (hs : side = 0 ∨ side = 1)
    (hk : ∀ w' ys, Ch [] w w' → LSpec side (dsel sym side xs) ys → K (best ys) w') : F20 K (some ⟨bd, 0, none⟩) sym side w := by
  unfold F20
  refine newB_i ?_
  refine c16 _ _ _ _ (P16 (hd.ch (S := []) (Ch.alloc _) (by simp) (by simp)) hlen (.inl hs) fun w2 s ys h1 h2 h3 h4 _ => ?_)
  have e : best (cut 1 ys) = best ys := by
    unfold cut
    split
    · cases ys with
      | nil => rfl
      | cons y r => rfl
    · rfl
  refine P20t (ys := cut 1 ys) (hp_ch h1 (hp_new _ _) (by simp)) h3 fun w' hc => ?_
  rw [e]
  exact hk w' ys (((Ch.alloc _).trans h1).trans' hc (by simp)) h2

noncomputable def spread (bs as_ : List DepthLevel) : Int × Bool := match bs, as_ with | b :: _, a :: _ => (wr (a.Price - b.Price), true) | _, _ => (0, false)

theorem P21n {K : (Int × Bool) → World → Prop} {w : World} {sym : Int} (hk : ∀ w', Ch [] w w' → K (0, false) w') : F21 K none sym w := by
  unfold F21
  refine c20 none _ _ (P20n fun w1 h1 => ?_)
  refine newB_i ?_
  rw [st_new rfl (by simp)]
  refine c20 none _ _ (P20n fun w2 h2 => ?_)
  refine newB_i ?_
  rw [st_new rfl (by simp)]
  intro X hX
  simp only [Bool.not_false, onB_true]
  refine hX _ _ ?_
  simp only [onB_true]
  exact hk _ (((h1.alloc' _).trans h2).alloc' _)

theorem P21 {K : (Int × Bool) → World → Prop} {w : World} {bd bm : Nat} {xs : Rows1} {sym : Int} (hd : DAt w bd bm xs) (hlen : xs.length ≤ 1073741824)
    (hk : ∀ w' ys zs, Ch [] w w' → LSpec 0 (dsel sym 0 xs) ys → LSpec 1 (dsel sym 1 xs) zs → K (spread ys zs) w') : F21 K (some ⟨bd, 0, none⟩) sym w := by
  unfold F21
  refine c20 _ _ _ (P20 hd hlen (.inl rfl) fun w1 ys h1 h2 => ?_)
  refine newB_i ?_
  rw [st_new rfl (by simp)]
  have c1 : Ch [] w (w1.alloc (.cells (wrt [Value.int .i64 0, .int .i64 0, .int .i64 0] 0 [.int .i64 (best ys).1.Price, .int .i64 (best ys).1.Qty, .int .i64 (best ys).1.Orders]).toArray 48)) := h1.alloc' _
  refine c20 _ _ _ (P20 (hd.ch c1 (by simp) (by simp)) hlen (.inr rfl) fun w2 zs h3 h4 => ?_)
  refine newB_i ?_
  rw [st_new rfl (by simp)]
  have c2 := (c1.trans h3).alloc' (.cells (wrt [Value.int .i64 0, .int .i64 0, .int .i64 0] 0 [.int .i64 (best zs).1.Price, .int .i64 (best zs).1.Qty, .int .i64 (best zs).1.Orders]).toArray 48)
  intro X hX
  have e1 : rdL (w2.alloc (.cells (wrt [Value.int .i64 0, .int .i64 0, .int .i64 0] 0 [.int .i64 (best zs).1.Price, .int .i64 (best zs).1.Qty, .int .i64 (best zs).1.Orders]).toArray 48)) ⟨w1.heap.size, 0, none⟩ 1 = some [.int .i64 (best ys).1.Price] :=
    rdL_of (hp_alloc (hp_ch h3 (hp_new _ _) (by simp))) (by simp [wrt])
  have e2 : rdL (w2.alloc (.cells (wrt [Value.int .i64 0, .int .i64 0, .int .i64 0] 0 [.int .i64 (best zs).1.Price, .int .i64 (best zs).1.Qty, .int .i64 (best zs).1.Orders]).toArray 48)) ⟨w2.heap.size, 0, none⟩ 1 = some [.int .i64 (best zs).1.Price] :=
    rdL_of (hp_new _ _) (by simp [wrt])
  have hfin := hk _ ys zs c2 h2 h4
  cases ys with
  | nil =>
    simp only [best, Bool.not_false, onB_true]
    refine hX _ _ ?_
    simp only [onB_true]
    exact hfin
  | cons y r =>
    cases zs with
    | nil =>
      simp only [best, Bool.not_true, Bool.not_false, onB_false]
      refine hX _ _ ?_
      simp only [onB_true]
      exact hfin
    | cons z t =>
      simp only [best, Bool.not_true, onB_false]
      refine hX _ _ ?_
      simp only [onB_false]
      refine ld_int.2 ⟨z.Price, ?_, ld_int.2 ⟨y.Price, ?_, hfin⟩⟩
      · rw [Addr.add_zero']; exact e2
      · rw [Addr.add_zero']; exact e1
end Go.Dk
