/- DepthOrders: the walk. -/
import Derived.Test.YtdmncelglohmiaaYtXF
namespace Go.Dk
open Go Go.RowKit
set_option linter.unusedSimpArgs false
set_option linter.unusedVariables false
set_option maxRecDepth 100000

/-! ### orders -/
theorem P18n {K : Sl → World → Prop} {w : World} {s : Sl} (hk : K ⟨none, 0, 0⟩ w) : F18 K none s w := by
  unfold F18
  intro X hX
  simp only [Option.isNone_none, onB_true]
  refine hX _ _ ?_
  simp only [onB_true]; exact hk
def mko (side : Int) (o : ApiOrder) : ApiOrder := ⟨o.ID, o.Owner, side, o.Price, if o.Qty < 0 ∨ o.Qty > 4294967296 then 1 else o.Qty, o.Flags, o.Seq⟩

set_option maxHeartbeats 4000000 in
theorem P4 {K : Bool → World → Prop} {w : World} {s0 : Sl} {l : List ApiOrder} {side : Int} (hl : slAt lApiOrder w s0 l) (hk : ∀ w', Ch [] w w' → K true w') : F4 K s0 side w := by
  have hls : s0.len = l.length := hl.1
  unfold F4
  intro X1 hX1
  have triv : X1 true w := by
    refine hX1 _ _ ?_
    simp only [onB_true]
    exact c10 (P10 hk)
  by_cases h60 : l.length > 60
  · have e : decide (((s0.len : Nat) : Int) > 60) = true := by simp; omega
    rw [e, onB_true]; exact triv
  · have e : decide (((s0.len : Nat) : Int) > 60) = false := by simp; omega
    rw [e, onB_false]
    have main : side = 0 ∨ side = 1 → X1 false w := by
      intro hs
      refine hX1 _ _ ?_
      simp only [onB_false]
      intro X6 hX6
      have loop : ∀ n i : Nat, i + n = l.length → ∀ (t : Sl) (W : World), Ch [] w W → slOwn lApiOrder W t ((l.take i).map (mko side)) → fresh w.heap.size t → X6 (t, (i : Int)) W := by
        intro n
        induction n with
        | zero =>
          intro i hi t W hc ht hf
          refine hX6 _ _ ?_
          have e1 : decide ((i : Int) < ((s0.len : Nat) : Int)) = false := by simp; omega
          simp only [e1, onB_false]
          have hi' : i = l.length := by omega
          rw [hi', List.take_length] at ht
          intro X33 hX33
          have hsd : ∀ o ∈ l.map (mko side), o.Side = side := fun o ho => by
            obtain ⟨x, _, rfl⟩ := List.mem_map.1 ho; rfl
          have hqd : ∀ o ∈ l.map (mko side), wr o.Qty = o.Qty := fun o ho => by
            obtain ⟨x, _, rfl⟩ := List.mem_map.1 ho
            unfold mko
            simp only
            split
            · rfl
            · exact wr_in (by omega) (by omega)
          refine c11 (P11 fun bd bm w1 h1 hb1 hb2 hd => ?_)
          have hml : (l.map (mko side)).length ≤ 1073741824 := by simp; omega
          refine c18 _ t (P18 (ht.at.ch h1 (by simp)) hml hs hsd fun W2 s2 ys g1 g2 g3 g4 g5 => ?_)
          have c2 := h1.trans g1
          refine c15 _ (P15 g3.at (Nat.le_trans g5 hml) fun W3 s3 k1 k2 k3 => ?_)
          have c3 := c2.trans k1
          refine c19 t (P19 (side := side) (ht.at.ch c3 (by simp)) hml hs hsd hqd fun W4 s4 zs j1 j2 j3 j4 j5 => ?_)
          have e : ys = zs.map bk := g2.unique j2
          have e2 : ys.map kb = zs := by
            rw [e, List.map_map]
            have : (kb ∘ bk) = id := rfl
            rw [this, List.map_id]
          have k2' : slOwn lRef33Level W3 s3 (ys.map kb) := k2
          rw [e2] at k2'
          refine c14 _ _ (P14 (k2'.ch j1 (by simp)).at j3.at (Nat.le_trans j5 hml) fun W5 j6 => ?_)
          simp only [onB_true]
          refine c18 none t (P18n ?_)
          simp only [show ((((⟨none, 0, 0⟩ : Sl).len : Nat) : Int) == 0) = true from rfl, onB_true]
          exact c10 (P10 fun W6 j7 => hX33 _ _ (hk _ ((((hc.trans c3).trans j1).trans j6).trans j7)))
        | succ n ih =>
          intro i hi t W hc ht hf
          have hil : i < l.length := by omega
          have hy : l[((i : Int)).toNat]? = some l[i] := by rw [Int.toNat_natCast]; exact List.getElem?_eq_getElem hil
          refine hX6 _ _ ?_
          have e1 : decide ((i : Int) < ((s0.len : Nat) : Int)) = true := by simp; omega
          simp only [e1, onB_true]
          refine idx_i (L := lApiOrder) (k := 7) (y := l[i]) (hl.ch hc (by simp)) rfl (by decide) (by omega) hy ?_
          generalize hro : l[i] = o
          refine newB_i ?_
          rw [st_new rfl (by simp), add_lit, st_new rfl (by simp)]
          simp only [wrt, List.length_cons, List.length_nil, List.take_zero, List.nil_append, Nat.zero_add, List.drop_succ_cons, List.drop_zero, List.drop_nil, List.append_nil, List.take_succ_cons, List.cons_append]
          intro X16 hX16
          have ew : IntKind.i64.wrap ((i : Int) + 1) = ((i + 1 : Nat) : Int) := by
            rw [IntWalk.i64_in _ (by omega)]; rfl
          have hb0 := hc.size
          have app : ∀ W2, Ch [] W W2 → (W2.heap[W.heap.size]? = some (.cells (lApiOrder.cells (mko side o)).toArray 43)) → (∀ K' : Sl → World → Prop, (∀ t' W', Ch [] w W' → slOwn lApiOrder W' t' ((l.take (i + 1)).map (mko side)) → fresh w.heap.size t' → K' t' W') →
              (ld lApiOrder (⟨W.heap.size, 0, none⟩ : Addr) (fun (v22 : ApiOrder) w23 => (newB (.cells [(.int .i64 v22.ID), (.int .i64 v22.Owner), (.int .i64 v22.Side), (.int .i64 v22.Price), (.int .i64 v22.Qty), (.int .i64 v22.Flags), (.int .i64 v22.Seq)].toArray 43) (fun b24 w25 => (56 ≠ 0 ∧ apnd 43 7 56 [(.int .i64 0), (.int .i64 0), (.int .i64 0), (.int .i64 0), (.int .i64 0), (.int .i64 0), (.int .i64 0)] t (⟨(some (⟨b24, 0, none⟩ : Addr)), 1, 1⟩ : Sl) (fun s26 w27 => K' s26 w27) w25)) w23)) W2)) := by
            intro W2 h2 hb K' hK'
            refine ld_i (L := lApiOrder) (mko side o : ApiOrder) hb rfl rfl (Nat.le_refl 7) ?_
            refine newB_i ?_
            generalize hm : mko side o = o'
            have c3 : Ch [] W2 (W2.alloc (.cells [.int .i64 o'.ID, .int .i64 o'.Owner, .int .i64 o'.Side, .int .i64 o'.Price, .int .i64 o'.Qty, .int .i64 o'.Flags, .int .i64 o'.Seq].toArray 43)) := Ch.alloc _
            have hx : slAt lApiOrder (W2.alloc (.cells [.int .i64 o'.ID, .int .i64 o'.Owner, .int .i64 o'.Side, .int .i64 o'.Price, .int .i64 o'.Qty, .int .i64 o'.Flags, .int .i64 o'.Seq].toArray 43)) ⟨some ⟨W2.heap.size, 0, none⟩, 1, 1⟩ [o'] :=
              ⟨rfl, Nat.le_refl _, .inr ⟨W2.heap.size, 0, _, 43, (0, 0), rfl, hp_new _ _, Nat.le_refl 7, rfl⟩⟩
            have hl1 : ((l.take i).map (mko side)).length = i := by rw [List.length_map, List.length_take]; omega
            refine apnd_i (L := lApiOrder) (xs := (l.take i).map (mko side)) (ht.ch (h2.trans c3) (by simp)) hx rfl rfl (by decide) (by rw [hl1]; simp; omega) (by rw [hl1]; simp; omega) (fun y => rfl) fun t' w3 k1 k2 k3 => ?_
            have hcc := (hc.trans h2).trans c3
            refine hK' t' w3 (hcc.trans' k1 (fun x hx => .inr (fresh_blks hf x hx))) ?_ ?_
            · rw [List.take_succ_eq_append_getElem hil, List.map_append, List.map_cons, hro, hm]; exact k2
            · intro p hp
              rcases k3 with k3 | ⟨b', k3, k4⟩
              · exact hf p (by rw [← k3]; exact hp)
              · rw [k3] at hp; cases hp; exact Nat.le_trans hcc.size k4
          have hW2 : Ch [] W (W.alloc (.cells [.int .i64 o.ID, .int .i64 o.Owner, .int .i64 side, .int .i64 o.Price, .int .i64 o.Qty, .int .i64 o.Flags, .int .i64 o.Seq].toArray 43)) := Ch.alloc _
          have hbn := hp_new W (.cells [.int .i64 o.ID, .int .i64 o.Owner, .int .i64 side, .int .i64 o.Price, .int .i64 o.Qty, .int .i64 o.Flags, .int .i64 o.Seq].toArray 43)
          have bad : (o.Qty < 0 ∨ o.Qty > 4294967296) → X16 true (W.alloc (.cells [.int .i64 o.ID, .int .i64 o.Owner, .int .i64 side, .int .i64 o.Price, .int .i64 o.Qty, .int .i64 o.Flags, .int .i64 o.Seq].toArray 43)) := by
            intro hb
            refine hX16 _ _ ?_
            intro X19 hX19
            simp only [onB_true, add_lit]
            rw [st_new rfl (by simp)]
            refine hX19 _ _ (app _ (Ch.alloc _) ?_ _ fun t' W' g1 g2 g3 => ?_)
            · rw [hp_new]
              have : (mko side o) = ⟨o.ID, o.Owner, side, o.Price, 1, o.Flags, o.Seq⟩ := by unfold mko; rw [if_pos hb]
              rw [this]; rfl
            · rw [ew]; exact ih (i + 1) (by omega) t' W' g1 g2 g3
          have good : ¬ (o.Qty < 0 ∨ o.Qty > 4294967296) → X16 false (W.alloc (.cells [.int .i64 o.ID, .int .i64 o.Owner, .int .i64 side, .int .i64 o.Price, .int .i64 o.Qty, .int .i64 o.Flags, .int .i64 o.Seq].toArray 43)) := by
            intro hb
            refine hX16 _ _ ?_
            intro X19 hX19
            simp only [onB_false]
            refine hX19 _ _ (app _ hW2 ?_ _ fun t' W' g1 g2 g3 => ?_)
            · rw [hp_new]
              have : (mko side o) = ⟨o.ID, o.Owner, side, o.Price, o.Qty, o.Flags, o.Seq⟩ := by unfold mko; rw [if_neg hb]
              rw [this]
            · rw [ew]; exact ih (i + 1) (by omega) t' W' g1 g2 g3
          have hq4 : rdL (W.alloc (.cells [.int .i64 o.ID, .int .i64 o.Owner, .int .i64 side, .int .i64 o.Price, .int .i64 o.Qty, .int .i64 o.Flags, .int .i64 o.Seq].toArray 43)) ⟨W.heap.size, 4, none⟩ 1 = some [.int .i64 o.Qty] := rdL_of hbn (show 4 + 1 ≤ 7 by decide)
          rw [add_lit, Nat.zero_add]
          refine ld_int.2 ⟨o.Qty, hq4, ?_⟩
          by_cases h1 : o.Qty < 0
          · have e2 : decide (o.Qty < 0) = true := by simpa using h1
            rw [e2, onB_true]; exact bad (.inl h1)
          · have e2 : decide (o.Qty < 0) = false := by simpa using h1
            rw [e2, onB_false]
            refine ld_int.2 ⟨o.Qty, hq4, ?_⟩
            by_cases h2 : o.Qty > 4294967296
            · have e3 : decide (o.Qty > 4294967296) = true := by simpa using h2
              rw [e3]; exact bad (.inr h2)
            · have e3 : decide (o.Qty > 4294967296) = false := by simpa using h2
              rw [e3]; exact good (by omega)
      exact loop l.length 0 (by omega) ⟨none, 0, 0⟩ w (Ch.refl _ _) slOwn.nil nofun
    by_cases h0 : side = 0
    · subst h0
      simp only [show ((0 : Int) != 0) = false from rfl, onB_false]
      exact main (.inl rfl)
    · have e0 : (side != 0) = true := by simpa using h0
      rw [e0, onB_true]
      by_cases h1 : side = 1
      · subst h1
        exact main (.inr rfl)
      · have e1 : (side != 1) = true := by simpa using h1
        rw [e1]; exact triv
end Go.Dk
