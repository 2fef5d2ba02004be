/- The document's depth: a row more, in whatever order. -/
import Derived.Test.YtdmncelglohmiaaYtRB
namespace Go.Dk
open Go Go.RowKit
set_option linter.unusedSimpArgs false
set_option linter.unusedVariables false
set_option maxRecDepth 100000

def newRow (m : ApiMsg) : Ref33Row := ⟨m.Sym, ⟨m.ID, 0, m.Code, m.Price, m.Qty, 0, 0⟩⟩
/-- how things stand on the way -/
structure Fx (w1 : World) (b1 : Nat) (m : ApiMsg) (br : Nat) (s : Sl) (rows : List Ref33Row) (A : Option Nat) (T : Option Sl) (R : Option Nat) (W : World) : Prop where
  ch : Ch [] w1 W
  msg : W.heap[b1]? = some (.cells [(.int .i64 m.Kind), (.int .i64 m.Sym), (.int .i64 m.Seq), (.int .i64 m.Tick), (.int .i64 m.ID), (.int .i64 m.With), (.int .i64 m.Price), (.int .i64 m.Qty), (.int .i64 m.Code)].toArray 33)
  m1 : b1 < w1.heap.size
  ra : RAt W br s rows
  r1 : br < w1.heap.size
  s1 : ∀ k ∈ blks s, k < w1.heap.size
  hA : ∀ b, A = some b → W.heap[b]? = some (.cells [].toArray 88) ∧ w1.heap.size ≤ b
  hT : ∀ t, T = some t → slOwn lRef33Row W t rows ∧ fresh w1.heap.size t
  hR : ∀ b, R = some b → W.heap[b]? = some (.cells (lRef33Row.cells (newRow m)).toArray 88) ∧ w1.heap.size ≤ b

section
variable {w1 : World} {b1 : Nat} {m : ApiMsg} {br : Nat} {s : Sl} {rows : List Ref33Row} {A : Option Nat} {T : Option Sl} {R : Option Nat} {W : World}

theorem Fx.ld (h : Fx w1 b1 m br s rows A T R W) {k : Nat} {x : Int} {K : Int → World → Prop} (hx : (([(.int .i64 m.Kind), (.int .i64 m.Sym), (.int .i64 m.Seq), (.int .i64 m.Tick), (.int .i64 m.ID), (.int .i64 m.With), (.int .i64 m.Price), (.int .i64 m.Qty), (.int .i64 m.Code)] : List Value).drop k).take 1 = [.int .i64 x]) (hk9 : k + 1 ≤ 9) (hk : K x W) : ld (lInt .i64) ((⟨b1, 0, none⟩ : Addr).add k) K W := by
  rw [Addr.add_lit, Nat.zero_add]
  exact ld_int.2 ⟨x, by rw [rdL_of h.msg hk9]; exact congrArg some hx, hk⟩
theorem Fx.ldd (h : Fx w1 b1 m br s rows A T R W) {K : Sl → World → Prop} (hk : K s W) : onO (some (⟨br, 0, none⟩ : Addr)) fun p => Go.Dk.ld lSl (p.add 0) K W := by
  rw [onO_some, Addr.add_zero']
  exact ld_sl.2 ⟨_, _, _, h.ra.rd, hk⟩
theorem Fx.al (h : Fx w1 b1 m br s rows A T R W) (o : Obj) : Fx w1 b1 m br s rows A T R (W.alloc o) :=
  ⟨h.ch.alloc' o, hp_alloc h.msg, h.m1, h.ra.ch (S := []) (Ch.alloc _) (by simp) (by simp), h.r1, h.s1, fun b hb => ⟨hp_alloc (h.hA b hb).1, (h.hA b hb).2⟩, fun t ht => ⟨(h.hT t ht).1.ch (S := []) (Ch.alloc _) (by simp), (h.hT t ht).2⟩, fun b hb => ⟨hp_alloc (h.hR b hb).1, (h.hR b hb).2⟩⟩
theorem Fx.newA (h : Fx w1 b1 m br s rows A T R W) {K : Nat → World → Prop} (hk : ∀ b W', Fx w1 b1 m br s rows (some b) T R W' → K b W') : newB (.cells [].toArray 88) K W := by
  have h' := h.al (.cells [].toArray 88)
  refine hk _ _ ⟨h'.ch, h'.msg, h'.m1, h'.ra, h'.r1, h'.s1, fun b hb => ?_, h'.hT, h'.hR⟩
  cases hb
  exact ⟨hp_new _ _, h.ch.size⟩
theorem Fx.newR (h : Fx w1 b1 m br s rows A T R W) {K : Nat → World → Prop} (hk : ∀ b W', Fx w1 b1 m br s rows A T (some b) W' → K b W') : newB (.cells [(.int .i64 m.Sym), (.int .i64 m.ID), (.int .i64 0), (.int .i64 m.Code), (.int .i64 m.Price), (.int .i64 m.Qty), (.int .i64 0), (.int .i64 0)].toArray 88) K W := by
  have h' := h.al (.cells [(.int .i64 m.Sym), (.int .i64 m.ID), (.int .i64 0), (.int .i64 m.Code), (.int .i64 m.Price), (.int .i64 m.Qty), (.int .i64 0), (.int .i64 0)].toArray 88)
  refine hk _ _ ⟨h'.ch, h'.msg, h'.m1, h'.ra, h'.r1, h'.s1, h'.hA, h'.hT, fun b hb => ?_⟩
  cases hb
  exact ⟨hp_new _ _, h.ch.size⟩
theorem Fx.app1 {b : Nat} (h : Fx w1 b1 m br s rows (some b) T R W) (hlen : rows.length ≤ 1073741824) {K : Sl → World → Prop} (hk : ∀ t W', Fx w1 b1 m br s rows none (some t) R W' → K t W') :
    64 ≠ 0 ∧ apnd 88 8 64 [(.int .i64 0), (.int .i64 0), (.int .i64 0), (.int .i64 0), (.int .i64 0), (.int .i64 0), (.int .i64 0), (.int .i64 0)] ⟨some ⟨b, 0, none⟩, 0, 0⟩ s K W := by
  obtain ⟨hb1, hb2⟩ := h.hA b rfl
  have hRb : ∀ c, R = some c → c ≠ b := by
    intro c hc e
    subst e
    have hc1 := (h.hR _ hc).1
    rw [hb1] at hc1
    simp [lRef33Row] at hc1
  have h0 : slOwn lRef33Row W ⟨some ⟨b, 0, none⟩, 0, 0⟩ [] := ⟨rfl, Nat.le_refl _, .inr ⟨b, 0, _, 88, rfl, hb1, Nat.le_refl _, rfl⟩⟩
  refine apnd_i (L := lRef33Row) h0 h.ra.sl.at rfl rfl (by decide) (by show (0 + rows.length) * 64 ≤ 2 ^ 47; omega) (by show 0 + rows.length < 2 ^ 62; omega) (fun y => rfl) fun t W' k1 k2 k3 => ?_
  have hnb : ∀ k, k < w1.heap.size → k ∉ blks ⟨some ⟨b, 0, none⟩, 0, 0⟩ := fun k hk hx => by simp [blks] at hx; omega
  refine hk t W' ⟨h.ch.trans' k1 (fun x hx => by simp [blks] at hx; subst hx; exact .inr hb2), hp_ch k1 h.msg (hnb _ h.m1), h.m1, h.ra.ch k1 (hnb _ h.r1) (fun k hk => hnb _ (h.s1 k hk)), h.r1, h.s1, nofun, fun t' ht' => ?_, fun c hc => ?_⟩
  · cases ht'
    refine ⟨k2, fun p hp => ?_⟩
    rcases k3 with k3 | ⟨b', k3, k4⟩
    · rw [k3] at hp; cases hp; exact hb2
    · rw [k3] at hp; cases hp; exact Nat.le_trans h.ch.size k4
  · obtain ⟨c1, c2⟩ := h.hR c hc
    exact ⟨hp_ch k1 c1 (fun hx => by simp [blks] at hx; exact hRb c hc hx), c2⟩
theorem Fx.app2 {t : Sl} {b : Nat} (h : Fx w1 b1 m br s rows A (some t) (some b) W) (hlen : rows.length ≤ 1073741824) {K : Sl → World → Prop} (hk : ∀ t' W', Ch [] w1 W' → RAt W' br s rows → slOwn lRef33Row W' t' (rows ++ [newRow m]) → fresh w1.heap.size t' → K t' W') :
    64 ≠ 0 ∧ apnd 88 8 64 [(.int .i64 0), (.int .i64 0), (.int .i64 0), (.int .i64 0), (.int .i64 0), (.int .i64 0), (.int .i64 0), (.int .i64 0)] t ⟨some ⟨b, 0, none⟩, 1, 1⟩ K W := by
  obtain ⟨hb1, hb2⟩ := h.hR b rfl
  obtain ⟨ht1, ht2⟩ := h.hT t rfl
  have hx : slAt lRef33Row W ⟨some ⟨b, 0, none⟩, 1, 1⟩ [newRow m] := ⟨rfl, Nat.le_refl _, .inr ⟨b, 0, _, 88, (0, 0), rfl, hb1, Nat.le_refl 8, rfl⟩⟩
  refine apnd_i (L := lRef33Row) ht1 hx rfl rfl (by decide) (by show (rows.length + 1) * 64 ≤ 2 ^ 47; omega) (by show rows.length + 1 < 2 ^ 62; omega) (fun y => rfl) fun t' W' k1 k2 k3 => ?_
  refine hk t' W' (h.ch.trans' k1 (fun x hx => .inr (fresh_blks ht2 x hx))) (h.ra.ch k1 (fresh_not ht2 h.r1) (fun k hk => fresh_not ht2 (h.s1 k hk))) k2 (fun p hp => ?_)
  rcases k3 with k3 | ⟨b', k3, k4⟩
  · exact ht2 p (by rw [← k3]; exact hp)
  · rw [k3] at hp; cases hp; exact Nat.le_trans h.ch.size k4
/-- the new list is laid down -/
theorem Fx.fin {t' : Sl} {W' : World} (h1 : br < w1.heap.size) (hc : Ch [] w1 W') (hr : RAt W' br s rows) (ht : slOwn lRef33Row W' t' (rows ++ [newRow m])) (hf : fresh w1.heap.size t') {K : World → Prop}
    (hk : ∀ w2, Ch [br] w1 w2 → RAt w2 br t' (rows ++ [newRow m]) → K w2) : onO (some (⟨br, 0, none⟩ : Addr)) fun p => st (p.add 0) [(.slice t'.a t'.len t'.cap)] K W' := by
  rw [onO_some, Addr.add_zero']
  obtain ⟨e, hd⟩ := hr.d
  refine st_i hd rfl (Nat.le_refl 1) ?_
  have hnb : br ∉ blks t' := fresh_not hf h1
  refine hk _ ((hc.mono (by simp)).trans (Ch.put _ _ (.inl (by simp)))) ⟨⟨e, hp_put_eq hd⟩, ?_, hnb⟩
  exact ht.ch (S := [br]) (Ch.put _ _ (.inl (by simp))) (fun k hk1 hk' => by simp at hk'; subst hk'; exact hnb hk1)
end

noncomputable def rput (m : ApiMsg) (rows : List Ref33Row) : List Ref33Row × Bool :=
  if m.Kind = 1 then
    if m.Qty < 1 ∨ ¬ (m.Code = 0 ∨ m.Code = 1) ∨ m.Price < 1 ∨ m.Price > 1099511627776 ∨ 0 ≤ rfind m.Sym m.ID rows then (rows, false)
    else (rows ++ [newRow m], true)
  else if m.Kind = 3 then
    if m.Qty < 1 then (rows, false)
    else
      let a := rless m.Sym m.ID m.Qty rows
      if m.Code ≠ 1 then (let b := rless m.Sym m.With m.Qty a.1; (b.1, a.2 || b.2)) else a
  else if m.Kind = 4 then
    match rows[(rfind m.Sym m.ID rows).toNat]? with
    | some r => if 0 ≤ rfind m.Sym m.ID rows then rless m.Sym m.ID r.O.Qty rows else (rows, false)
    | none => (rows, false)
  else (rows, false)
end Go.Dk
