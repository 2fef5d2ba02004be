/- The document's levels, and how they are compared. -/
import Derived.Test.YtdmncelglohmiaaYtXC
import Derived.Test.YtdmncelglohmiaaYtA
namespace Go.Dk
open Go Go.RowKit
set_option linter.unusedSimpArgs false
set_option linter.unusedVariables false
set_option maxRecDepth 100000

theorem P14 {K : Bool → World → Prop} {w : World} {a b : Sl} {xs : List Ref33Level} (ha : slAt lRef33Level w a xs) (hb : slAt lRef33Level w b xs) (hlen : xs.length ≤ 1073741824) (hk : ∀ w', Ch [] w w' → K true w') : F14 K a b w := by
  have hla : a.len = xs.length := ha.1
  have hlb : b.len = xs.length := hb.1
  unfold F14
  have e : (((a.len : Nat) : Int) != ((b.len : Nat) : Int)) = false := by rw [hla, hlb]; simp
  rw [e, onB_false]
  intro X hX
  have loop : ∀ n i : Nat, i + n = xs.length → ∀ w1, Ch [] w w1 → X (i : Int) w1 := by
    intro n
    induction n with
    | zero =>
      intro i hi w1 hc
      refine hX _ _ ?_
      have e1 : decide ((i : Int) < ((a.len : Nat) : Int)) = false := by simp; omega
      simp only [e1, onB_false]
      exact hk w1 hc
    | succ n ih =>
      intro i hi w1 hc
      refine hX _ _ ?_
      have e1 : decide ((i : Int) < ((a.len : Nat) : Int)) = true := by simp; omega
      simp only [e1, onB_true]
      have hil : i < xs.length := by omega
      have hy : xs[((i : Int)).toNat]? = some xs[i] := by rw [Int.toNat_natCast]; exact List.getElem?_eq_getElem hil
      refine idx_i (L := lRef33Level) (k := 3) (y := xs[i]) (ha.ch hc.drew' (by simp)) rfl (by decide) (by omega) hy ?_
      refine idx_i (L := lRef33Level) (k := 3) (y := xs[i]) (hb.ch hc.drew' (by simp)) rfl (by decide) (by omega) hy ?_
      have e2 : ([xs[i].Price, xs[i].Qty, xs[i].Orders] == [xs[i].Price, xs[i].Qty, xs[i].Orders]) = true := by simp
      rw [e2]
      simp only [Bool.not_true, onB_false]
      have ew : IntKind.i64.wrap ((i : Int) + 1) = ((i + 1 : Nat) : Int) := by
        rw [IntWalk.i64_in _ (by omega)]; rfl
      rw [ew]
      exact ih (i + 1) (by omega) _ hc.drew'
  exact loop xs.length 0 (by omega) w (Ch.refl _ _)

def kb (v : DepthLevel) : Ref33Level := ⟨v.Price, v.Qty, v.Orders⟩
theorem bk_kb (v : DepthLevel) : bk (kb v) = v := rfl
theorem kb_bk (v : Ref33Level) : kb (bk v) = v := rfl

theorem P15 {K : Sl → World → Prop} {w : World} {s : Sl} {ys : List DepthLevel} (hs : slAt lDepthLevel w s ys) (hlen : ys.length ≤ 1073741824) (hk : ∀ w' s', Ch [] w w' → slOwn lRef33Level w' s' (ys.map kb) → fresh w.heap.size s' → K s' w') : F15 K s w := by
  have hls : s.len = ys.length := hs.1
  unfold F15
  intro X hX
  have loop : ∀ n i : Nat, i + n = ys.length → ∀ (t : Sl) w1, Ch [] w w1 → slOwn lRef33Level w1 t ((ys.take i).map kb) → fresh w.heap.size t → X (t, (i : Int)) w1 := by
    intro n
    induction n with
    | zero =>
      intro i hi t w1 hc ht hf
      refine hX _ _ ?_
      have e1 : decide ((i : Int) < ((s.len : Nat) : Int)) = false := by simp; omega
      simp only [e1, onB_false]
      have hi' : i = ys.length := by omega
      rw [hi', List.take_length] at ht
      exact hk w1 t hc ht hf
    | succ n ih =>
      intro i hi t w1 hc ht hf
      refine hX _ _ ?_
      have e1 : decide ((i : Int) < ((s.len : Nat) : Int)) = true := by simp; omega
      simp only [e1, onB_true]
      have hil : i < ys.length := by omega
      have hy : ys[((i : Int)).toNat]? = some ys[i] := by rw [Int.toNat_natCast]; exact List.getElem?_eq_getElem hil
      have hsd : slAt lDepthLevel w1.drew s ys := hs.ch hc.drew' (by simp)
      refine idx_f (L := lDepthLevel) (k := 3) (f := 0) (y := ys[i]) hsd rfl (by decide) (by omega) hy rfl ?_
      refine idx_f (L := lDepthLevel) (k := 3) (f := 1) (y := ys[i]) hsd rfl (by decide) (by omega) hy rfl ?_
      refine idx_f (L := lDepthLevel) (k := 3) (f := 2) (y := ys[i]) hsd rfl (by decide) (by omega) hy rfl ?_
      have hS : Gx lRef33Level w t ((ys.take i).map kb) none none w1.drew → True := fun _ => trivial
      refine newB_i ?_
      have hx : slAt lRef33Level (w1.drew.alloc (.cells [.int .i64 ys[i].Price, .int .i64 ys[i].Qty, .int .i64 ys[i].Orders].toArray 53)) ⟨some ⟨w1.drew.heap.size, 0, none⟩, 1, 1⟩ [kb ys[i]] :=
        ⟨rfl, Nat.le_refl _, .inr ⟨w1.drew.heap.size, 0, _, 53, (0, 0), rfl, hp_new _ _, Nat.le_refl 3, rfl⟩⟩
      have hl1 : ((ys.take i).map kb).length = i := by rw [List.length_map, List.length_take]; omega
      refine apnd_i (L := lRef33Level) (xs := (ys.take i).map kb) (ht.ch (S := []) (Ch.drew.alloc' _) (by simp)) hx rfl rfl (by decide) (by rw [hl1]; simp; omega) (by rw [hl1]; simp; omega) (fun y => rfl) fun t' w3 k1 k2 k3 => ?_
      have ew : IntKind.i64.wrap ((i : Int) + 1) = ((i + 1 : Nat) : Int) := by
        rw [IntWalk.i64_in _ (by omega)]; rfl
      rw [ew]
      have hc3 := (hc.drew').alloc' (.cells [.int .i64 ys[i].Price, .int .i64 ys[i].Qty, .int .i64 ys[i].Orders].toArray 53)
      refine ih (i + 1) (by omega) t' w3 (hc3.trans' k1 (fun x hx => .inr (fresh_blks hf x hx))) ?_ ?_
      · rw [List.take_succ_eq_append_getElem hil, List.map_append]; exact k2
      · intro p hp
        rcases k3 with k3 | ⟨b', k3, k4⟩
        · exact hf p (by rw [← k3]; exact hp)
        · rw [k3] at hp; cases hp; exact Nat.le_trans hc3.size k4
  exact loop ys.length 0 (by omega) ⟨none, 0, 0⟩ w (Ch.refl _ _) slOwn.nil nofun

/-- are numbers such that they can be put together? -/
def msmall (l : List ApiMsg) : Bool := decide (l.length ≤ 120) && l.all fun m => decide (-1125899906842624 ≤ m.Qty) && decide (m.Qty ≤ 1125899906842624)
theorem P9 {K : Bool → World → Prop} {w : World} {s : Sl} {l : List ApiMsg} (hs : slAt lApiMsg w s l) (hk : K (msmall l) w) : F9 K s w := by
  have hls : s.len = l.length := hs.1
  unfold F9
  by_cases h0 : l.length > 120
  · have e : decide (((s.len : Nat) : Int) > 120) = true := by simp; omega
    rw [e, onB_true]
    have e2 : msmall l = false := by unfold msmall; simp; omega
    rw [e2] at hk; exact hk
  · have e : decide (((s.len : Nat) : Int) > 120) = false := by simp; omega
    rw [e, onB_false]
    intro X hX
    have loop : ∀ n i : Nat, i + n = l.length → (∀ m ∈ l.take i, -1125899906842624 ≤ m.Qty ∧ m.Qty ≤ 1125899906842624) → X (i : Int) w := by
      intro n
      induction n with
      | zero =>
        intro i hi hall
        refine hX _ _ ?_
        have e1 : decide ((i : Int) < ((s.len : Nat) : Int)) = false := by simp; omega
        simp only [e1, onB_false]
        have hi' : i = l.length := by omega
        rw [hi', List.take_length] at hall
        have e2 : msmall l = true := by
          unfold msmall
          simp only [Bool.and_eq_true, decide_eq_true_eq, List.all_eq_true]
          exact ⟨by omega, hall⟩
        rw [e2] at hk; exact hk
      | succ n ih =>
        intro i hi hall
        refine hX _ _ ?_
        have e1 : decide ((i : Int) < ((s.len : Nat) : Int)) = true := by simp; omega
        simp only [e1, onB_true]
        have hil : i < l.length := by omega
        have hy : l[((i : Int)).toNat]? = some l[i] := by rw [Int.toNat_natCast]; exact List.getElem?_eq_getElem hil
        intro Y hY
        have bad : ¬ (-1125899906842624 ≤ l[i].Qty ∧ l[i].Qty ≤ 1125899906842624) → Y true w := by
          intro hb
          refine hY _ _ ?_
          simp only [onB_true]
          have e2 : msmall l = false := by
            cases hm : msmall l with
            | false => rfl
            | true =>
              unfold msmall at hm
              simp only [Bool.and_eq_true, decide_eq_true_eq, List.all_eq_true] at hm
              exact (hb (hm.2 _ (List.getElem_mem hil))).elim
          rw [e2] at hk; exact hk
        have good : (-1125899906842624 ≤ l[i].Qty ∧ l[i].Qty ≤ 1125899906842624) → Y false w := by
          intro hg
          refine hY _ _ ?_
          simp only [onB_false]
          have ew : IntKind.i64.wrap ((i : Int) + 1) = ((i + 1 : Nat) : Int) := by
            rw [IntWalk.i64_in _ (by omega)]; rfl
          rw [ew]
          refine ih (i + 1) (by omega) ?_
          rw [List.take_succ_eq_append_getElem hil]
          intro m hm
          rcases List.mem_append.1 hm with hm | hm
          · exact hall m hm
          · simp at hm; subst hm; exact hg
        refine idx_f (L := lApiMsg) (k := 9) (f := 7) (y := l[i]) hs rfl (by decide) (by omega) hy rfl ?_
        by_cases h1 : l[i].Qty < -1125899906842624
        · have e2 : decide (l[i].Qty < -1125899906842624) = true := by simpa using h1
          simp only [e2, onB_true]; exact bad (by omega)
        · have e2 : decide (l[i].Qty < -1125899906842624) = false := by simpa using h1
          simp only [e2, onB_false]
          refine idx_f (L := lApiMsg) (k := 9) (f := 7) (y := l[i]) hs rfl (by decide) (by omega) hy rfl ?_
          by_cases h2 : l[i].Qty > 1125899906842624
          · have e3 : decide (l[i].Qty > 1125899906842624) = true := by simpa using h2
            rw [e3]; exact bad (by omega)
          · have e3 : decide (l[i].Qty > 1125899906842624) = false := by simpa using h2
            rw [e3]; exact good (by omega)
    exact loop l.length 0 (by omega) (by simp)

def rsel (sym side : Int) (rows : List Ref33Row) : List ApiOrder := (rows.filter fun r => r.Sym == sym && r.O.Side == side).map fun r => r.O
theorem rsel_dsel (sym side : Int) (rows : List Ref33Row) : dsel sym side (rows.map kvR) = (rsel sym side rows).map opq := by
  unfold dsel rsel
  rw [List.filter_map, List.map_map, List.map_map]
  rfl
theorem rsel_len (sym side : Int) (rows : List Ref33Row) : (rsel sym side rows).length ≤ rows.length := by
  unfold rsel; rw [List.length_map]; exact List.length_filter_le _ _
theorem rsel_snoc (sym side : Int) (rows : List Ref33Row) (i : Nat) (hi : i < rows.length) : rsel sym side (rows.take (i + 1)) = if rows[i].Sym == sym && rows[i].O.Side == side then rsel sym side (rows.take i) ++ [rows[i].O] else rsel sym side (rows.take i) := by
  unfold rsel
  rw [List.take_succ_eq_append_getElem hi, List.filter_append, List.map_append, List.filter_cons]
  split <;> simp
theorem cut_map {α β : Type} (f : α → β) (most : Int) (ys : List α) : (cut most ys).map f = cut most (ys.map f) := by
  unfold cut
  rw [List.length_map]
  split
  · rw [List.map_take]
  · rfl

set_option maxHeartbeats 1000000 in
theorem P17 {K : Sl → World → Prop} {w : World} {br : Nat} {s : Sl} {rows : List Ref33Row} {sym side most : Int} (h : RAt w br s rows) (hlen : rows.length ≤ 1073741824) (hs : side = 0 ∨ side = 1) (hq : ∀ r ∈ rows, wr r.O.Qty = r.O.Qty)
    (hk : ∀ w' s' ys, Ch [] w w' → LSpec side (dsel sym side (rows.map kvR)) (ys.map bk) → slOwn lRef33Level w' s' (cut most ys) → fresh w.heap.size s' → ys.length ≤ rows.length → K s' w') : F17 K (some ⟨br, 0, none⟩) sym side most w := by
  have hl : s.len = rows.length := h.sl.1
  unfold F17
  intro X hX
  have loop : ∀ n i : Nat, i + n = rows.length → ∀ (t : Sl) (w1 : World), Ch [] w w1 → slOwn lApiOrder w1 t (rsel sym side (rows.take i)) → fresh w.heap.size t → X (t, (i : Int)) w1 := by
    intro n
    induction n with
    | zero =>
      intro i hi t w1 hc ht hf
      refine hX _ _ ?_
      have h1 := h.ch hc (by simp) (by simp)
      rw [onO_some, Addr.add_zero']
      refine ld_sl.2 ⟨s.a, s.len, s.cap, h1.rd, ?_⟩
      have e1 : decide ((i : Int) < ((s.len : Nat) : Int)) = false := by simp; omega
      simp only [e1, onB_false]
      have hi' : i = rows.length := by omega
      rw [hi', List.take_length] at ht
      have hrl := rsel_len sym side rows
      refine c19 t (P19 (side := side) ht.at (by omega) hs (fun o ho => ?_) (fun o ho => ?_) fun w2 t' ys g1 g2 g3 g4 g5 => ?_)
      · unfold rsel at ho
        obtain ⟨r, hr, rfl⟩ := List.mem_map.1 ho
        have := (List.mem_filter.1 hr).2
        simp at this; exact this.2
      · unfold rsel at ho
        obtain ⟨r, hr, rfl⟩ := List.mem_map.1 ho
        exact hq r (List.mem_filter.1 hr).1
      · rw [← rsel_dsel] at g2
        have hlt : t'.len = ys.length := g3.1
        have hcap : t'.len ≤ t'.cap := g3.2.1
        have hfr : fresh w.heap.size t' := fun p hp => Nat.le_trans hc.size (g4 p hp)
        intro Y hY
        by_cases h0 : most ≥ 0
        · have e2 : decide (most ≥ 0) = true := by simpa using h0
          rw [e2, onB_true]
          by_cases h1 : most < ((t'.len : Nat) : Int)
          · have e3 : decide (most < ((t'.len : Nat) : Int)) = true := by simpa using h1
            rw [e3]
            refine hY _ _ ?_
            simp only [onB_true]
            refine ⟨Int.le_refl _, h0, by omega, Int.le_refl _, ?_⟩
            have e4 : cut most ys = ys.take most.toNat := by unfold cut; rw [if_pos ⟨h0, by omega⟩]
            simp only [Int.toNat_zero, slA_zero, Nat.sub_zero, Int.toNat_natCast]
            refine hk w2 _ ys (hc.trans g1) g2 ?_ hfr (by omega)
            rw [e4]
            obtain ⟨q1, q2, q3⟩ := g3
            refine ⟨by simp; omega, by show most.toNat ≤ t'.cap; omega, q3.imp id ?_⟩
            rintro ⟨b, off, c, e, k1, k2, k3, k4⟩
            refine ⟨b, off, c, e, k1, k2, k3, ?_⟩
            show (c.toList.drop off).take (most.toNat * lRef33Level.n) = _
            have hle : most.toNat * lRef33Level.n ≤ t'.len * lRef33Level.n := Nat.mul_le_mul_right _ (by omega)
            have e5 : (c.toList.drop off).take (most.toNat * lRef33Level.n) = ((c.toList.drop off).take (t'.len * lRef33Level.n)).take (most.toNat * lRef33Level.n) := by rw [List.take_take]; congr 1; omega
            have e6 : ((ys.take most.toNat).flatMap lRef33Level.cells).length = most.toNat * lRef33Level.n := by rw [flat_len (L := lRef33Level), List.length_take]; congr 1; omega
            rw [e5, k4]
            conv => lhs; rw [(List.take_append_drop most.toNat ys).symm]
            rw [List.flatMap_append, List.take_append_of_le_length (by rw [e6]; exact Nat.le_refl _), List.take_of_length_le (by rw [e6]; exact Nat.le_refl _)]
          · have e3 : decide (most < ((t'.len : Nat) : Int)) = false := by simpa using h1
            rw [e3]
            refine hY _ _ ?_
            simp only [onB_false]
            have e4 : cut most ys = ys := by unfold cut; rw [if_neg (by omega)]
            exact hk w2 t' ys (hc.trans g1) g2 (by rw [e4]; exact g3) hfr (by omega)
        · have e2 : decide (most ≥ 0) = false := by simpa using h0
          rw [e2, onB_false]
          refine hY _ _ ?_
          simp only [onB_false]
          have e4 : cut most ys = ys := by unfold cut; rw [if_neg (by omega)]
          exact hk w2 t' ys (hc.trans g1) g2 (by rw [e4]; exact g3) hfr (by omega)
    | succ n ih =>
      intro i hi t w1 hc ht hf
      refine hX _ _ ?_
      have h1 := h.ch hc (by simp) (by simp)
      have hil : i < rows.length := by omega
      have hy : rows[((i : Int)).toNat]? = some rows[i] := by rw [Int.toNat_natCast]; exact List.getElem?_eq_getElem hil
      rw [onO_some, Addr.add_zero']
      refine ld_sl.2 ⟨s.a, s.len, s.cap, h1.rd, ?_⟩
      have e1 : decide ((i : Int) < ((s.len : Nat) : Int)) = true := by simp; omega
      simp only [e1, onB_true]
      intro X7 hX7
      have ew : IntKind.i64.wrap ((i : Int) + 1) = ((i + 1 : Nat) : Int) := by
        rw [IntWalk.i64_in _ (by omega)]; rfl
      rw [ew] at hX7
      have hsn := rsel_snoc sym side rows i hil
      intro X10 hX10
      have skip : (rows[i].Sym == sym && rows[i].O.Side == side) = false → X10 false w1 := by
        intro hno
        refine hX10 _ _ ?_
        simp only [onB_false]
        refine hX7 _ _ (ih (i + 1) (by omega) t w1 hc ?_ hf)
        rw [hsn, hno]; exact ht
      have take : (rows[i].Sym == sym && rows[i].O.Side == side) = true → X10 true w1 := by
        intro hyes
        refine hX10 _ _ ?_
        simp only [onB_true, onO_some, Addr.add_zero']
        refine ld_sl.2 ⟨s.a, s.len, s.cap, h1.rd, ?_⟩
        refine idx_p (L := lRef33Row) (k := 8) (y := rows[i]) (G := fun q => ld lApiOrder (q.add 1) _ w1) h1.sl.at rfl (by decide) (by omega) hy fun q hq => ?_
        refine ld_eq.2 ⟨rows[i].O, rdL_sub (off := 1) (k := 7) hq (by decide), ?_⟩
        refine newB_i ?_
        generalize hro : rows[i].O = o
        have c2 : Ch [] w1 (w1.alloc (.cells [.int .i64 o.ID, .int .i64 o.Owner, .int .i64 o.Side, .int .i64 o.Price, .int .i64 o.Qty, .int .i64 o.Flags, .int .i64 o.Seq].toArray 43)) := Ch.alloc _
        have hx : slAt lApiOrder (w1.alloc (.cells [.int .i64 o.ID, .int .i64 o.Owner, .int .i64 o.Side, .int .i64 o.Price, .int .i64 o.Qty, .int .i64 o.Flags, .int .i64 o.Seq].toArray 43)) ⟨some ⟨w1.heap.size, 0, none⟩, 1, 1⟩ [o] :=
          ⟨rfl, Nat.le_refl _, .inr ⟨w1.heap.size, 0, _, 43, (0, 0), rfl, hp_new _ _, Nat.le_refl 7, rfl⟩⟩
        have hrl := rsel_len sym side (rows.take i)
        rw [List.length_take] at hrl
        refine apnd_i (L := lApiOrder) (ht.ch c2 (by simp)) hx rfl rfl (by decide) (by simp; omega) (by simp; omega) (fun y => rfl) fun t' w3 k1 k2 k3 => ?_
        refine hX7 _ _ (ih (i + 1) (by omega) t' w3 ((hc.trans c2).trans' k1 (fun x hx => .inr (fresh_blks hf x hx))) ?_ ?_)
        · rw [hsn, hyes, hro]; exact k2
        · intro p hp
          rcases k3 with k3 | ⟨b', k3, k4⟩
          · exact hf p (by rw [← k3]; exact hp)
          · rw [k3] at hp; cases hp; exact Nat.le_trans (hc.trans c2).size k4
      simp only [onO_some, Addr.add_zero']
      refine ld_sl.2 ⟨s.a, s.len, s.cap, h1.rd, ?_⟩
      refine idx_f (L := lRef33Row) (k := 8) (f := 0) (y := rows[i]) h1.sl.at rfl (by decide) (by omega) hy rfl ?_
      cases h2 : rows[i].Sym == sym with
      | false =>
        rw [onB_false]; exact skip (by rw [h2]; rfl)
      | true =>
        rw [onB_true]
        refine ld_sl.2 ⟨s.a, s.len, s.cap, h1.rd, ?_⟩
        refine idx_p (L := lRef33Row) (k := 8) (y := rows[i]) (G := fun q => ld (lInt .i64) ((q.add 1).add 2) _ w1) h1.sl.at rfl (by decide) (by omega) hy fun q hq => ?_
        refine ld_int.2 ⟨rows[i].O.Side, rdL_sub (off := 2) (k := 1) (rdL_sub (off := 1) (k := 7) hq (by decide)) (by decide), ?_⟩
        cases h3 : rows[i].O.Side == side with
        | true => exact take (by rw [h2, h3]; rfl)
        | false => exact skip (by rw [h2, h3]; rfl)
  exact loop rows.length 0 (by omega) ⟨none, 0, 0⟩ w (Ch.refl _ _) slOwn.nil nofun
end Go.Dk
