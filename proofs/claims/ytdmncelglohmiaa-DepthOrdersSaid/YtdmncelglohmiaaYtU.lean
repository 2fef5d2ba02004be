/- Levels: values gathered and sorted. -/
import Derived.Test.YtdmncelglohmiaaYtT
namespace Go.Dk
open Go Go.RowKit
set_option linter.unusedSimpArgs false
set_option linter.unusedVariables false
set_option maxRecDepth 100000

/-- how things stand between two rounds -/
structure Gat (w0 : World) (b d l : Nat) (r : Loop) (ys : List DepthLevel) (w : World) : Prop where
  ch : Ch [] w0 w
  sl : ∃ s : Sl, w.heap[b]? = some (.cells [.slice s.a s.len s.cap].toArray 37) ∧ slOwn lDepthLevel w s ys ∧ fresh w0.heap.size s ∧ b ∉ blks s
  lp : lpIs w l r .ready none
  df : w.heap[d]? = some (.deferred (some []))

theorem slOwn.cells {L : LTy} {w : World} {s : Sl} {xs : List L.α} (h : slOwn L w s xs) : ∀ k ∈ blks s, ∃ l e, w.heap[k]? = some (.cells l e) := by
  obtain ⟨h1, h2, h3⟩ := h
  intro k hk
  rcases h3 with ⟨h3, _⟩ | ⟨b, off, l, e, h4, h5, _⟩
  · simp [blks, h3] at hk
  · simp [blks, h4] at hk; subst hk; exact ⟨l, e, h5⟩

theorem Gat.step {w0 w w' : World} {b d l : Nat} {r : Loop} {ys : List DepthLevel} (h : Gat w0 b d l r ys w) {k : Nat} (hc : Ch [k] w w') (hk : isIter w k ∨ w.heap.size ≤ k) (h0 : w0.heap.size ≤ k) : Gat w0 b d l r ys w' := by
  obtain ⟨hch, ⟨s, h1, h2, h3, h4⟩, h5, h6⟩ := h
  have ne : ∀ j o, w.heap[j]? = some o → (∀ a b c d, o ≠ .mapIter a b c d) → j ∉ [k] := by
    intro j o hj ho hjk
    simp at hjk; subst hjk
    rcases hk with ⟨a, b, c, d, hk⟩ | hk
    · rw [hj] at hk; exact ho a b c d (Option.some.inj hk)
    · have := hp_lt hj; omega
  refine ⟨hch.trans' hc (by simpa using h0), ⟨s, hp_ch hc h1 (ne _ _ h1 nofun), h2.ch hc ?_, h3, h4⟩, hp_ch hc h5 (ne _ _ h5 nofun), hp_ch hc h6 (ne _ _ h6 nofun)⟩
  intro j hj
  obtain ⟨l, e, hl⟩ := h2.cells j hj
  exact ne _ _ hl nofun

theorem P82 {K : Sl → World → Prop} {w : World} {p : Addr} {m : Nat} {xs : PM} (hp : rdL w p 1 = some [.map (some m)]) (hm : m2At w m xs) (hlen : xs.length ≤ 1073741824)
    (hk : ∀ w' s ys, Ch [] w w' → slOwn lDepthLevel w' s ys → fresh w.heap.size s → ys.Perm (xs.map (·.2)) → K s w') :
    F82 K ⟨none, 0, 0⟩ (.func (.func 68) [].toArray [.pointer (some p)].toArray) w := by
  have hpb := rdL_lt hp
  have hmb := mapAt.lt hm
  unfold F82
  refine newB_i ?_
  intro r
  simp only [rngB, newB_eq]
  intro hround
  refine ⟨yc.ok_fb 68 (by rfl), ?_⟩
  have hw5 : Ch [] w (((w.alloc (.cells [.slice none 0 0].toArray 37)).alloc (.deferred (some []))).alloc (lpO r .ready none)) := Ch.alloc' (Ch.alloc' (Ch.alloc _) _) _
  simp only [World.size_alloc] at hround ⊢
  generalize hb : w.heap.size = n0 at *
  have hG0 : Gat w n0 (n0 + 1) (n0 + 1 + 1) r [] (((w.alloc (.cells [.slice none 0 0].toArray 37)).alloc (.deferred (some []))).alloc (lpO r .ready none)) := by
    refine ⟨hw5, ⟨⟨none, 0, 0⟩, ?_, slOwn.nil, (fun p hp => by cases hp), by simp [blks]⟩, ?_, ?_⟩
    · refine hp_alloc (hp_alloc ?_); rw [← hb]; exact hp_new _ _
    · unfold lpIs; rw [show n0 + 1 + 1 = ((w.alloc (.cells [.slice none 0 0].toArray 37)).alloc (.deferred (some []))).heap.size by simp [hb]]; exact hp_new _ _
    · refine hp_alloc ?_; rw [show n0 + 1 = (w.alloc (.cells [.slice none 0 0].toArray 37)).heap.size by simp [hb]]; exact hp_new _ _
  have key := c68 (K := fun _ w9 => ∃ s p, lpIs w9 (n0 + 1 + 1) r s p ∧ s ≠ .busy ∧ ∃ ys, p = none ∧ Gat w n0 (n0 + 1) (n0 + 1 + 1) r ys w9 ∧ ys.Perm (xs.map (·.2))) (yl (n0 + 1 + 1)) p (w := ((w.alloc (.cells [.slice none 0 0].toArray 37)).alloc (.deferred (some []))).alloc (lpO r .ready none))
    (P68 (rdL_ch hp hw5 (by simp)) (mapAt.ch hm hw5 (by simp)) (fun ys W => Gat w n0 (n0 + 1) (n0 + 1 + 1) r ys W) hG0
      (fun ys W W' h hc => h.step (k := W.heap.size) (hc.mono (by simp)) (.inr (Nat.le_refl _)) h.ch.size)
      (fun ys W W' k h0 h hi hc => h.step hc (.inl hi) (Nat.le_trans hw5.size h0)) (fun ys v W K' h hl hK' => ?_) (fun W ys h hperm => ⟨_, _, h.lp, nofun, ys, rfl, h, hperm⟩))
  · refine Calls.mono key fun e w9 ⟨x, he, sst, pp, h1, h2, ys, hpp, hg, hperm⟩ => ⟨he, sst, pp, h1, h2, ?_⟩
    subst hpp
    obtain ⟨hch, ⟨s, g1, g2, g3, g4⟩, g5, g6⟩ := hg
    have hl : n0 + 1 + 1 ∉ blks s := fun hx => by
      obtain ⟨l, e, hl⟩ := g2.cells _ hx
      have g5' : w9.heap[n0 + 1 + 1]? = some (lpO r .ready none) := g5
      rw [hl] at g5'; cases g5'
    have hd : n0 + 1 ∉ blks s := fun hx => by
      obtain ⟨l, e, hl⟩ := g2.cells _ hx
      rw [hl] at g6; cases g6
    have c1 : Ch [n0 + 1 + 1] w9 (w9.putObj (n0 + 1 + 1) (lpO r .exhausted none)) := Ch.put _ _ (.inl (by simp))
    have c2 : Ch [n0 + 1] (w9.putObj (n0 + 1 + 1) (lpO r .exhausted none)) ((w9.putObj (n0 + 1 + 1) (lpO r .exhausted none)).putObj (n0 + 1) (.deferred none)) := Ch.put _ _ (.inl (by simp))
    show ld lSl _ _ _
    refine ld_sl.2 ⟨s.a, s.len, s.cap, rdL_of (hp_ch c1 g1 (by simp; omega)) (Nat.le_refl 1), ?_⟩
    refine ⟨hp_ch c1 g6 (by simp), ?_⟩
    refine hk _ s ys ((hch.trans' c1 (by simp; omega)).trans' c2 (by simp; omega)) ?_ ?_ hperm
    · refine (g2.ch c1 ?_).ch c2 ?_
      · intro k hk hk'; simp at hk'; subst hk'; exact hl hk
      · intro k hk hk'; simp at hk'; subst hk'; exact hd hk
    · rw [← hb]; exact g3
  · show InvV yp (yl (n0 + 1 + 1)) _ W (retK lBool K')
    refine hround v _ W h.lp ?_
    obtain ⟨hch, ⟨s, g1, g2, g3, g4⟩, g5, g6⟩ := h
    have g5' : W.heap[n0 + 1 + 1]? = some (lpO r .ready none) := g5
    have hlb : n0 + 1 + 1 ∉ blks s := fun hx => by
      obtain ⟨l, e, hl⟩ := g2.cells _ hx
      rw [hl] at g5'; cases g5'
    have hWs := hch.size
    have hlt := hp_lt g5'
    rw [st_new rfl (by simp)]
    refine ⟨hp_alloc g5', ?_⟩
    have c1 : Ch [n0 + 1 + 1] W ((W.alloc (.cells (wrt [Value.int .i64 0, .int .i64 0, .int .i64 0] 0 [.int .i64 v.Price, .int .i64 v.Qty, .int .i64 v.Orders]).toArray 48)).putObj (n0 + 1 + 1) (lpO r .busy none)) := Ch.put' (Ch.alloc _) _ _ (.inl (by simp))
    refine ld_sl.2 ⟨s.a, s.len, s.cap, rdL_of (hp_ch c1 g1 (by simp; omega)) (Nat.le_refl 1), ?_⟩
    refine ld_i (L := lDepthLevel) v (hp_put_ne (hp_new _ _) (show W.heap.size ≠ n0 + 1 + 1 by omega)) rfl rfl (Nat.le_refl 3) ?_
    generalize hW2 : ((W.alloc (.cells (wrt [Value.int .i64 0, .int .i64 0, .int .i64 0] 0 [.int .i64 v.Price, .int .i64 v.Qty, .int .i64 v.Orders]).toArray 48)).putObj (n0 + 1 + 1) (lpO r .busy none)) = W2 at *
    have hW2l : W2.heap[n0 + 1 + 1]? = some (lpO r .busy none) := by rw [← hW2]; exact hp_put_eq (hp_alloc g5')
    have c2 : Ch [n0 + 1 + 1] W (W2.alloc (.cells [.int .i64 v.Price, .int .i64 v.Qty, .int .i64 v.Orders].toArray 48)) := c1.alloc' _
    have hs3 : slOwn lDepthLevel (W2.alloc (.cells [.int .i64 v.Price, .int .i64 v.Qty, .int .i64 v.Orders].toArray 48)) s ys := g2.ch c2 (fun k hk hk' => by simp at hk'; subst hk'; exact hlb hk)
    have hx3 : slAt lDepthLevel (W2.alloc (.cells [.int .i64 v.Price, .int .i64 v.Qty, .int .i64 v.Orders].toArray 48)) ⟨some ⟨W2.heap.size, 0, none⟩, 1, 1⟩ [v] :=
      ⟨rfl, Nat.le_refl _, .inr ⟨W2.heap.size, 0, _, 48, (0, 0), rfl, hp_new _ _, Nat.le_refl 3, rfl⟩⟩
    refine apnd_i (L := lDepthLevel) hs3 hx3 rfl rfl (by decide) ?_ ?_ (fun y => rfl) fun s' W4 k1 k2 k3 => ?_
    · have : ys.length < 1073741824 := Nat.lt_of_lt_of_le hl hlen
      show (ys.length + 1) * 24 ≤ 2 ^ 47
      omega
    · have : ys.length < 1073741824 := Nat.lt_of_lt_of_le hl hlen
      show ys.length + 1 < 2 ^ 62
      omega
    · have hn0b : n0 ∉ blks s := g4
      have e0 : W4.heap[n0]? = some (.cells [.slice s.a s.len s.cap].toArray 37) := hp_ch k1 (hp_ch c2 g1 (by simp; omega)) hn0b
      have el : W4.heap[n0 + 1 + 1]? = some (lpO r .busy none) := hp_ch k1 (hp_alloc hW2l) hlb
      have ed : W4.heap[n0 + 1]? = some (.deferred (some [])) := hp_ch k1 (hp_ch c2 g6 (by simp)) (fun hx => by
        obtain ⟨l, e, hl⟩ := g2.cells _ hx
        rw [hl] at g6; cases g6)
      refine st_i e0 rfl (by simp) ?_
      have hcW : Ch ((n0 + 1 + 1) :: n0 :: blks s) W4 ((W4.putObj n0 (.cells (wrt [Value.slice s.a s.len s.cap] 0 [.slice s'.a s'.len s'.cap]).toArray 37)).putObj (n0 + 1 + 1) (lpO r .ready none)) :=
        Ch.put' (Ch.put _ _ (.inl (by simp))) _ _ (.inl (by simp))
      have hbig : Ch ((n0 + 1 + 1) :: n0 :: blks s) W ((W4.putObj n0 (.cells (wrt [Value.slice s.a s.len s.cap] 0 [.slice s'.a s'.len s'.cap]).toArray 37)).putObj (n0 + 1 + 1) (lpO r .ready none)) :=
        ((c2.mono (by simp)).trans (k1.mono (fun x hx => .inl (by simp [hx])))).trans hcW
      have hsz4 : W.heap.size ≤ W4.heap.size := (c2.mono (S' := (n0 + 1 + 1) :: n0 :: blks s) (by simp)).trans (k1.mono (fun x hx => .inl (by simp [hx]))) |>.size
      have hfr' : fresh w.heap.size s' := by
        intro q hq
        rcases k3 with k3 | ⟨b', k3, k4⟩
        · exact g3 q (by rw [← k3]; exact hq)
        · rw [k3] at hq; cases hq
          have : W.heap.size ≤ (W2.alloc (.cells [.int .i64 v.Price, .int .i64 v.Qty, .int .i64 v.Orders].toArray 48)).heap.size := c2.size
          show w.heap.size ≤ b'
          omega
      have hnot : ∀ k ∈ blks s', k ≠ n0 ∧ k ≠ n0 + 1 + 1 := by
        intro k hk
        rcases k3 with k3 | ⟨b', k3, k4⟩
        · have : blks s' = blks s := by simp [blks, k3]
          rw [this] at hk
          exact ⟨fun e => hn0b (e ▸ hk), fun e => hlb (e ▸ hk)⟩
        · simp [blks, k3] at hk
          subst hk
          have : W.heap.size ≤ (W2.alloc (.cells [.int .i64 v.Price, .int .i64 v.Qty, .int .i64 v.Orders].toArray 48)).heap.size := c2.size
          have : n0 + 1 + 1 < W.heap.size := hlt
          constructor <;> omega
      refine ⟨hp_put_ne el (show n0 + 1 + 1 ≠ n0 by omega), true, rfl, ?_⟩
      refine hK' _ ⟨?_, ⟨s', ?_, ?_, hfr', fun hx => (hnot _ hx).1 rfl⟩, ?_, ?_⟩ ?_
      · refine hch.trans' hbig ?_
        intro x hx
        right
        rcases List.mem_cons.1 hx with rfl | hx
        · omega
        · rcases List.mem_cons.1 hx with rfl | hx
          · omega
          · cases hsa : s.a with
            | none => simp [blks, hsa] at hx
            | some q => simp [blks, hsa] at hx; subst hx; exact g3 q hsa
      · exact hp_put_ne (hp_put_eq e0) (show n0 ≠ n0 + 1 + 1 by omega)
      · refine (k2.ch (S := [n0]) (Ch.put _ _ (.inl (by simp))) ?_).ch (S := [n0 + 1 + 1]) (Ch.put _ _ (.inl (by simp))) ?_
        · intro k hk; simpa using (hnot k hk).1
        · intro k hk; simpa using (hnot k hk).2
      · exact hp_put_eq (hp_put_ne el (show n0 + 1 + 1 ≠ n0 by omega))
      · exact hp_put_ne (hp_put_ne ed (show n0 + 1 ≠ n0 by omega)) (show n0 + 1 ≠ n0 + 1 + 1 by omega)
      · intro k hk
        refine hbig.block k ?_ ?_
        · rcases hk with ⟨a, b, c, d, hk⟩ | ⟨es, c, hk⟩ <;> exact hp_lt hk
        · intro hx
          have nocell : ∀ l e, W.heap[k]? ≠ some (.cells l e) := by
            intro l e he
            rcases hk with ⟨a, b, c, d, hk⟩ | ⟨es, c, hk⟩ <;> (rw [hk] at he; cases he)
          rcases List.mem_cons.1 hx with rfl | hx
          · rcases hk with ⟨a, b, c, d, hk⟩ | ⟨es, c, hk⟩ <;> (rw [hk] at g5'; cases g5')
          · rcases List.mem_cons.1 hx with rfl | hx
            · exact nocell _ _ g1
            · obtain ⟨l, e, hl⟩ := g2.cells _ hx
              exact nocell _ _ hl
end Go.Dk
