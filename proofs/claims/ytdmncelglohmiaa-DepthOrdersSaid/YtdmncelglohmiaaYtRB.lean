/- The document's depth: less. -/
import Derived.Test.YtdmncelglohmiaaYtRA
namespace Go.Dk
open Go Go.RowKit
set_option linter.unusedSimpArgs false
set_option linter.unusedVariables false
set_option maxRecDepth 100000

noncomputable def lessR (q : Int) (r : Ref33Row) : Ref33Row := ⟨r.Sym, ⟨r.O.ID, r.O.Owner, r.O.Side, r.O.Price, wr (r.O.Qty - q), r.O.Flags, r.O.Seq⟩⟩
noncomputable def atR (i : Int) (q : Int) (k : Nat) (r : Ref33Row) : Ref33Row := if (k : Int) = i then lessR q r else r
/-- what stands in the first k rows, i's lessened -/
noncomputable def restR (i : Int) (q : Int) (rows : List Ref33Row) (k : Nat) : List Ref33Row := (((rows.take k).zipIdx.map fun p => atR i q p.2 p.1)).filter fun r => decide (r.O.Qty > 0)
theorem restR_succ (i q : Int) (rows : List Ref33Row) (k : Nat) (hk : k < rows.length) : restR i q rows (k + 1) = if (atR i q k rows[k]).O.Qty > 0 then restR i q rows k ++ [atR i q k rows[k]] else restR i q rows k := by
  unfold restR
  rw [List.take_succ_eq_append_getElem hk, List.zipIdx_append, List.map_append, List.filter_append]
  have hl : (rows.take k).length = k := by rw [List.length_take]; omega
  simp only [hl, List.zipIdx_cons, List.zipIdx_nil, List.map_cons, List.map_nil, Nat.zero_add, List.filter_cons, List.filter_nil]
  by_cases h : (atR i q k rows[k]).O.Qty > 0
  · simp [h]
  · simp [h]
noncomputable def rless (sym id q : Int) (rows : List Ref33Row) : List Ref33Row × Bool := if rfind sym id rows < 0 then (rows, false) else (restR (rfind sym id rows) q rows rows.length, true)
theorem restR_len (i q : Int) (rows : List Ref33Row) (k : Nat) : (restR i q rows k).length ≤ k := by
  unfold restR
  refine Nat.le_trans (List.length_filter_le _ _) ?_
  simp; omega

set_option maxHeartbeats 1000000 in
theorem P35 {K : Bool → World → Prop} {w : World} {br : Nat} {s : Sl} {rows : List Ref33Row} {sym id q : Int} (h : RAt w br s rows) (hlen : rows.length ≤ 1073741824)
    (hk : ∀ w' s', Ch [br] w w' → RAt w' br s' (rless sym id q rows).1 → K (rless sym id q rows).2 w') : F35 K (some ⟨br, 0, none⟩) sym id q w := by
  have hbr : br < w.heap.size := rdL_lt h.rd
  have hsl := h.sl.at.lt
  unfold F35
  refine c34 _ _ _ (P34 h hlen ?_)
  by_cases hneg : rfind sym id rows < 0
  · simp only [hneg, decide_true, onB_true]
    have e : rless sym id q rows = (rows, false) := by unfold rless; rw [if_pos hneg]
    rw [e] at hk
    exact hk w s (Ch.refl _ _) h
  · simp only [hneg, decide_false, onB_false]
    have e : rless sym id q rows = (restR (rfind sym id rows) q rows rows.length, true) := by unfold rless; rw [if_neg hneg]
    rw [e] at hk
    generalize rfind sym id rows = ix at *
    intro X hX
    have hl : s.len = rows.length := h.sl.1
    have loop : ∀ n i : Nat, i + n = rows.length → ∀ (t : Sl) (w1 : World), Ch [] w w1 → slOwn lRef33Row w1 t (restR ix q rows i) → fresh w.heap.size t → X (t, (i : Int)) w1 := by
      intro n
      induction n with
      | zero =>
        intro i hi t w1 hc ht hf
        refine hX _ _ ?_
        have h1 := h.ch hc (by simp) (by simp)
        rw [onO_some, Addr.add_zero']
        refine ld_sl.2 ⟨s.a, s.len, s.cap, h1.rd, ?_⟩
        have e1 : decide ((i : Int) < ((s.len : Nat) : Int)) = false := by simp; omega
        simp only [e1, onB_false]
        rw [onO_some, Addr.add_zero']
        obtain ⟨ec, hd⟩ := h1.d
        refine st_i hd rfl (Nat.le_refl 1) ?_
        have hi' : i = rows.length := by omega
        subst hi'
        refine hk _ t ((hc.mono (by simp)).trans (Ch.put _ _ (.inl (by simp)))) ⟨⟨ec, hp_put_eq hd⟩, ?_, fresh_not hf hbr⟩
        exact ht.ch (S := [br]) (Ch.put _ _ (.inl (by simp))) (fun k hk1 hk' => by simp at hk'; subst hk'; exact fresh_not hf hbr hk1)
      | succ n ih =>
        intro i hi t w1 hc ht hf
        have hil : i < rows.length := by omega
        refine hX _ _ ?_
        have h1 := h.ch hc (by simp) (by simp)
        rw [onO_some, Addr.add_zero']
        refine ld_sl.2 ⟨s.a, s.len, s.cap, h1.rd, ?_⟩
        have e1 : decide ((i : Int) < ((s.len : Nat) : Int)) = true := by simp; omega
        simp only [e1, onB_true]
        intro Y hY
        have ew : IntKind.i64.wrap ((i : Int) + 1) = ((i + 1 : Nat) : Int) := by
          rw [IntWalk.i64_in _ (by omega)]; rfl
        have next : ∀ t' w2, Ch [] w w2 → slOwn lRef33Row w2 t' (restR ix q rows (i + 1)) → fresh w.heap.size t' → Y t' w2 := by
          intro t' w2 g1 g2 g3
          refine hY _ _ ?_
          show X (t', IntKind.i64.wrap ((i : Int) + 1)) w2
          rw [ew]
          exact ih (i + 1) (by omega) t' w2 g1 g2 g3
        rw [onO_some, Addr.add_zero']
        refine ld_sl.2 ⟨s.a, s.len, s.cap, h1.rd, ?_⟩
        have hy : rows[((i : Int)).toNat]? = some rows[i] := by rw [Int.toNat_natCast]; exact List.getElem?_eq_getElem hil
        refine idx_i (L := lRef33Row) (k := 8) (y := rows[i]) h1.sl.at rfl (by decide) (by omega) hy ?_
        generalize hr : rows[i] = r
        refine newB_i ?_
        rw [st_new rfl (by simp)]
        intro Z hZ
        have hbt : ∀ k ∈ blks t, k < w1.heap.size := ht.at.lt
        have tail : ∀ (w2 : World) (r' : Ref33Row), w2.heap[w1.heap.size]? = some (.cells (lRef33Row.cells r').toArray 88) → Ch [] w1 w2 → restR ix q rows (i + 1) = (if r'.O.Qty > 0 then restR ix q rows i ++ [r'] else restR ix q rows i) → Z () w2 := by
          intro w2 r' g1 g2 g3
          have ht2 : slOwn lRef33Row w2 t (restR ix q rows i) := ht.ch g2 (by simp)
          refine hZ _ _ ?_
          rw [Addr.add_lit, Addr.add_lit]
          refine ld_int.2 ⟨r'.O.Qty, rdL_of (b := w1.heap.size) (off := 5) g1 (show 5 + 1 ≤ 8 by decide), ?_⟩
          by_cases hq : r'.O.Qty > 0
          · rw [if_pos hq] at g3
            simp only [hq, decide_true, onB_true]
            refine ld_i (L := lRef33Row) r' g1 rfl rfl (Nat.le_refl 8) ?_
            refine newB_i ?_
            have c2 : Ch [] w2 (w2.alloc (.cells [.int .i64 r'.Sym, .int .i64 r'.O.ID, .int .i64 r'.O.Owner, .int .i64 r'.O.Side, .int .i64 r'.O.Price, .int .i64 r'.O.Qty, .int .i64 r'.O.Flags, .int .i64 r'.O.Seq].toArray 88)) := Ch.alloc _
            have hx : slAt lRef33Row (w2.alloc (.cells [.int .i64 r'.Sym, .int .i64 r'.O.ID, .int .i64 r'.O.Owner, .int .i64 r'.O.Side, .int .i64 r'.O.Price, .int .i64 r'.O.Qty, .int .i64 r'.O.Flags, .int .i64 r'.O.Seq].toArray 88)) ⟨some ⟨w2.heap.size, 0, none⟩, 1, 1⟩ [r'] :=
              ⟨rfl, Nat.le_refl _, .inr ⟨w2.heap.size, 0, _, 88, (0, 0), rfl, hp_new _ _, Nat.le_refl 8, rfl⟩⟩
            have hrl := restR_len ix q rows i
            refine apnd_i (L := lRef33Row) (ht2.ch c2 (by simp)) hx rfl rfl (by decide) ?_ ?_ (fun y => rfl) fun t' w3 k1 k2 k3 => ?_
            · show ((restR ix q rows i).length + 1) * 64 ≤ 2 ^ 47
              omega
            · show (restR ix q rows i).length + 1 < 2 ^ 62
              omega
            · have hcb := (hc.trans g2).trans c2
              refine next t' w3 (hcb.trans' k1 (fun x hx => .inr (fresh_blks hf x hx))) ?_ ?_
              · rw [g3]; exact k2
              · intro p hp
                rcases k3 with k3 | ⟨b', k3, k4⟩
                · exact hf p (by rw [← k3]; exact hp)
                · rw [k3] at hp; cases hp
                  exact Nat.le_trans hcb.size k4
          · rw [if_neg hq] at g3
            simp only [hq, decide_false, onB_false]
            exact next t w2 (hc.trans g2) (by rw [g3]; exact ht2) hf
        have hsucc := restR_succ ix q rows i hil
        rw [hr] at hsucc
        by_cases hii : (i : Int) = ix
        · have e2 : ((i : Int) == ix) = true := by simpa using hii
          simp only [e2, onB_true]
          rw [Addr.add_lit, Addr.add_lit]
          refine ld_int.2 ⟨r.O.Qty, rdL_of (b := w1.heap.size) (off := 5) (hp_new _ _) (by simp [wrt]), ?_⟩
          rw [st_new rfl (by simp [wrt])]
          refine tail _ (lessR q r) ?_ (Ch.alloc _) ?_
          · rw [hp_new]; rfl
          · rw [hsucc]; unfold atR; rw [if_pos hii]
        · have e2 : ((i : Int) == ix) = false := by simpa using hii
          simp only [e2, onB_false]
          refine tail _ r ?_ (Ch.alloc _) ?_
          · rw [hp_new]; rfl
          · rw [hsucc]; unfold atR; rw [if_neg hii]
    exact loop rows.length 0 (by omega) ⟨none, 0, 0⟩ w (Ch.refl _ _) (by simp [restR]; exact slOwn.nil) (fun p hp => by cases hp)
end Go.Dk
