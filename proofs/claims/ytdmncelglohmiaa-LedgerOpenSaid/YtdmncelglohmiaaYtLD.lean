/- Ledger: trade, Put. -/
import Derived.Test.YtdmncelglohmiaaYtLC
import Derived.Test.YtdmncelglohmiaaDkMap
namespace Go.Dk
open Go Go.RowKit
set_option linter.unusedSimpArgs false
set_option linter.unusedVariables false
set_option maxRecDepth 100000
variable {w W W' : World} {bl bn be ba : Nat} {g : LG}

theorem keyL_refl (a : LedgerKey) : keyL a a = true := (keyL_iff a a).2 rfl
theorem encK_inj (x y : LedgerKey) (h : lLedgerKey.enc x = lLedgerKey.enc y) : x = y := by
  cases x; cases y
  simpa [lLedgerKey] using h
theorem encI_inj (x y : Int) (h : (lInt .i64).enc x = (lInt .i64).enc y) : x = y := by
  simpa [lInt] using h
theorem LAt.entE (h : LAt w bl bn be ba g) {x : LedgerKey} {K : Int → Int → World → Prop}
    (hk : ∀ w' s, Ch [be] w w' → LAt w' bl bn be ba ⟨g.now, kset keyL x ((kfind keyL x g.early).getD 0) g.early, g.aside⟩ → entOf lLedgerKey (lInt .i64) w' be x s → K ((kfind keyL x g.early).getD 0) s w') : ment lLedgerKey (lInt .i64) (some be) x K w := by
  obtain ⟨n1, n2, n3, n4, n5, n6⟩ := h.ne
  exact h.e.ent (keyL_refl x) fun w' s h1 h2 h3 => hk w' s h1 ⟨rdL_ch h.d h1 (by simpa using n5), h.n.ch h1 (by simpa using n1), h2, h.a.ch h1 (by simpa using n3.symm), h.ne⟩ h3
theorem LAt.stoE (h : LAt w bl bn be ba g) {x : LedgerKey} {s v : Int} (he : entOf lLedgerKey (lInt .i64) w be x s) {K : World → Prop}
    (hk : ∀ w', Ch [be] w w' → LAt w' bl bn be ba ⟨g.now, kset keyL x v g.early, g.aside⟩ → K w') : mesto lLedgerKey (lInt .i64) (some be) s v K w := by
  obtain ⟨n1, n2, n3, n4, n5, n6⟩ := h.ne
  exact mapAt.sto (LK := lLedgerKey) (LV := lInt .i64) encK_inj encI_inj h.e he fun w' h1 h2 => hk w' h1 ⟨rdL_ch h.d h1 (by simpa using n5), h.n.ch h1 (by simpa using n1), h2, h.a.ch h1 (by simpa using n3.symm), h.ne⟩

set_option maxHeartbeats 2000000 in
theorem P40 {K : Int → World → Prop} {m : ApiMsg} (hL : LAt w bl bn be ba g) (hk : ∀ w', Ch [bn, be, ba] w w' → LAt w' bl bn be ba (ltrade m g).2 → K (ltrade m g).1 w') : F40 K (some ⟨bl, 0, none⟩) m w := by
  have h := Lc.start w
  obtain ⟨p1, p2, p3, p4⟩ := hL.lt
  have hbad : ∀ W, Ch [] w W → ltrade m g = (5, g) → K 5 W := fun W hc e => by
    rw [e] at hk; exact hk W (hc.mono (by simp)) (hL.ch0 hc)
  unfold F40
  simp only [onO_some]
  refine h.new fun b1 W1 h _ _ => ?_
  intro X3 hX3
  have fin : ∀ (W : World) (T : Tbl) (bx bY : Nat) (i j l : Nat) (e1 e2 : TypeId), Lc w.heap.size w W T → T[i]? = some (bx, [.int .i64 m.Sym, .int .i64 m.ID], e1) → T[j]? = some (bY, [.int .i64 m.Sym, .int .i64 m.With], e2) →
      T[l]? = some (b1, [.int .i64 m.Kind, .int .i64 m.Sym, .int .i64 m.Seq, .int .i64 m.Tick, .int .i64 m.ID, .int .i64 m.With, .int .i64 m.Price, .int .i64 m.Qty, .int .i64 m.Code], 33) → X3 (some ⟨bx, 0, none⟩, some ⟨bY, 0, none⟩) W := by
    intro W T bx bY i j l e1 e2 h hi hj hl
    refine hX3 _ _ ?_
    intro X6 hX6
    refine h.ldi l hl rfl ?_
    simp only [onO_some]
    by_cases hc1 : m.Code = 1
    · have e : (m.Code != 1) = false := by simpa using hc1
      rw [e, onB_false]
      refine h.ldi l hl rfl ?_
      refine h.ldL0 i hi (kX m) rfl (by decide) ?_
      refine h.new fun b W' h _ _ => ?_
      have hi' : ∀ {x : TE}, ((x :: T : Tbl))[i + 1]? = T[i]? := List.getElem?_cons_succ
      have hbn : bn ∉ blks ⟨some ⟨b, 0, none⟩, 1, 1⟩ := by
        have := h.ge 0 _ rfl
        simp only [blks, List.mem_singleton]
        simp only at this
        omega
      refine c60 _ _ ⟨some ⟨b, 0, none⟩, 1, 1⟩ (P60 (hL.lc h p1 p2 p3 p4) (h.sl 0 rfl (L := lLedgerKey) [kX m] rfl rfl).at hbn (by simp) (fun hcan W2 g1 hL2 => ?_) (fun hcan W2 g1 => ?_))
      · simp only [Bool.not_true, onB_false]
        have h2 := (h.mut g1 (by simpa using p2)).drew
        have hLd := hL2.lc h2 p1 p2 p3 p4
        have e2 : ltrade m g = (0, ⟨[kX m].foldl (fill1 m.Qty) g.now, kset keyL (kY m) (wl ((kfind keyL (kY m) g.early).getD 0 + m.Qty)) g.early, g.aside⟩) := by
          unfold ltrade
          rw [if_neg (by simpa using hc1), if_neg (by rw [hcan]; simp)]
        rw [e2] at hk
        have hc2 : Ch [bn, be, ba] w W2 := (h.out0.mono (by simp)).trans (g1.mono (by simp))
        have hfin : ∀ W3, Ch [bn, be, ba] w W3 → LAt W3 bl bn be ba ⟨[kX m].foldl (fill1 m.Qty) g.now, kset keyL (kY m) (wl ((kfind keyL (kY m) g.early).getD 0 + m.Qty)) g.early, g.aside⟩ → X6 () W3 := fun W3 h3 h4 => hX6 _ _ (hk W3 h3 h4)
        refine ⟨?_, ?_⟩
        · refine hLd.ld (by decide) rfl ?_
          refine h2.ldL0 (j + 1) hj (kY m) rfl (by decide) ?_
          refine hLd.getE ?_
          refine h2.ldi (l + 1) hl rfl ?_
          refine hLd.entE fun W3 s k1 k2 k3 => ?_
          refine k2.stoE k3 fun W4 k4 k5 => hfin W4 ?_ ?_
          · exact ((hc2.trans Ch.drew).trans (k1.mono (by simp))).trans (k4.mono (by simp))
          · have := k5
            rw [kset_kset keyL _ (keyL_refl _)] at this
            exact this
        · refine hLd.ld (by decide) rfl ?_
          refine h2.ldL0 (j + 1) hj (kY m) rfl (by decide) ?_
          refine h2.ldi (l + 1) hl rfl ?_
          refine hLd.entE fun W3 s k1 k2 k3 => ?_
          refine k2.getE ?_
          refine k2.stoE k3 fun W4 k4 k5 => hfin W4 ?_ ?_
          · exact ((hc2.trans Ch.drew).trans (k1.mono (by simp))).trans (k4.mono (by simp))
          · have := k5
            simp only at this
            rw [kset_kset keyL _ (keyL_refl _), kfind_kset keyL _ (keyL_refl _)] at this
            exact this
      · simp only [Bool.not_false, onB_true]
        refine hbad _ (h.out0.trans g1) ?_
        unfold ltrade
        rw [if_neg (by simpa using hc1), if_pos hcan]
    · have e : (m.Code != 1) = true := by simpa using hc1
      rw [e, onB_true]
      intro X11 hX11
      have bad : ∀ W, Ch [] w W → ltrade m g = (5, g) → X11 true W := fun W hc e => hX11 _ _ (by simp only [onB_true]; exact hbad W hc e)
      refine h.ldL0 i hi (kX m) rfl (by decide) ?_
      refine h.ldL0 j hj (kY m) rfl (by decide) ?_
      cases hkk : keyL (kX m) (kY m) with
      | true =>
        have hkk' : ([(kX m).sym, (kX m).id] == [(kY m).sym, (kY m).id]) = true := hkk
        rw [hkk', onB_true]
        refine bad _ h.out0 ?_
        unfold ltrade
        rw [if_pos (by simpa using hc1), if_pos (.inl hkk)]
      | false =>
        have hkk' : ([(kX m).sym, (kX m).id] == [(kY m).sym, (kY m).id]) = false := hkk
        rw [hkk', onB_false]
        refine h.ldi l hl rfl ?_
        refine h.ldL0 i hi (kX m) rfl (by decide) ?_
        refine h.ldL0 j hj (kY m) rfl (by decide) ?_
        refine h.new fun b W' h _ _ => ?_
        have hbn : bn ∉ blks ⟨some ⟨b, 0, none⟩, 2, 2⟩ := by
          have := h.ge 0 _ rfl
          simp only [blks, List.mem_singleton]
          simp only at this
          omega
        refine c60 _ _ ⟨some ⟨b, 0, none⟩, 2, 2⟩ (P60 (hL.lc h p1 p2 p3 p4) (h.sl 0 rfl (L := lLedgerKey) [kX m, kY m] rfl rfl).at hbn (by simp) (fun hcan W2 g1 hL2 => ?_) (fun hcan W2 g1 => ?_))
        · simp only [Bool.not_true]
          refine hX11 _ _ ?_
          simp only [onB_false]
          have e2 : ltrade m g = (0, ⟨[kX m, kY m].foldl (fill1 m.Qty) g.now, g.early, g.aside⟩) := by
            unfold ltrade
            rw [if_pos (by simpa using hc1), if_neg (by rw [hcan, hkk]; simp)]
          rw [e2] at hk
          exact hX6 _ _ (hk W2 ((h.out0.mono (by simp)).trans (g1.mono (by simp))) hL2)
        · simp only [Bool.not_false]
          refine bad _ (h.out0.trans g1) ?_
          unfold ltrade
          rw [if_pos (by simpa using hc1), if_pos (.inr hcan)]
  replace h := h.drew
  repeat' apply And.intro
  all_goals
    repeat (first | (refine h.ldi 0 rfl rfl ?_) | (refine h.ldi0 0 rfl rfl ?_) | (refine h.ldb 0 rfl rfl ?_) | (refine h.ldb0 0 rfl rfl ?_) | (refine h.ldp 0 rfl rfl ?_) | (refine h.ldp0 0 rfl rfl ?_) | (refine h.ldm 0 rfl rfl ?_) | (refine h.lds 0 rfl rfl ?_) | (refine h.lds0 0 rfl rfl ?_) | (refine h.ldi 1 rfl rfl ?_) | (refine h.ldi0 1 rfl rfl ?_) | (refine h.ldb 1 rfl rfl ?_) | (refine h.ldb0 1 rfl rfl ?_) | (refine h.ldp 1 rfl rfl ?_) | (refine h.ldp0 1 rfl rfl ?_) | (refine h.ldm 1 rfl rfl ?_) | (refine h.lds 1 rfl rfl ?_) | (refine h.lds0 1 rfl rfl ?_) | (refine h.ldi 2 rfl rfl ?_) | (refine h.ldi0 2 rfl rfl ?_) | (refine h.ldb 2 rfl rfl ?_) | (refine h.ldb0 2 rfl rfl ?_) | (refine h.ldp 2 rfl rfl ?_) | (refine h.ldp0 2 rfl rfl ?_) | (refine h.ldm 2 rfl rfl ?_) | (refine h.lds 2 rfl rfl ?_) | (refine h.lds0 2 rfl rfl ?_) | (refine h.st0 0 rfl (by simp) fun _ h _ => ?_) | (refine h.st 0 rfl (by simp) fun _ h _ => ?_) | (refine h.st0 1 rfl (by simp) fun _ h _ => ?_) | (refine h.st 1 rfl (by simp) fun _ h _ => ?_) | (refine h.st0 2 rfl (by simp) fun _ h _ => ?_) | (refine h.st 2 rfl (by simp) fun _ h _ => ?_) | (refine h.new fun _ _ h _ _ => ?_))
    first
    | exact fin _ _ _ _ 1 0 2 _ _ h rfl rfl rfl
    | exact fin _ _ _ _ 0 1 2 _ _ h rfl rfl rfl

set_option maxHeartbeats 1000000 in
theorem P24 {K : Int → World → Prop} {m : ApiMsg} (hL : LAt w bl bn be ba g) (hk : ∀ w', Ch [bn, be, ba] w w' → LAt w' bl bn be ba (lput m g).2 → K (lput m g).1 w') : F24 K (some ⟨bl, 0, none⟩) m w := by
  have h := Lc.start w
  obtain ⟨p1, p2, p3, p4⟩ := hL.lt
  have hbad : ∀ W c, Ch [] w W → lput m g = (c, g) → K c W := fun W c hc e => by
    rw [e] at hk; exact hk W (hc.mono (by simp)) (hL.ch0 hc)
  unfold F24
  refine h.new fun b1 W1 h _ _ => ?_
  simp only [Option.isNone_some, onB_false]
  refine h.ldi 0 rfl rfl ?_
  intro X5 hX5
  by_cases h34 : m.Kind = 3 ∨ m.Kind = 4
  · have go : X5 true W1 := by
      refine hX5 _ _ ?_
      simp only [onB_true]
      refine h.ldi 0 rfl rfl ?_
      refine h.new fun b2 W2 h _ _ => ?_
      refine c39 ⟨some ⟨b2, 0, none⟩, 1, 1⟩ (P39 (l := ([m.Qty] : List Int)) (h.sl 0 rfl (L := lInt .i64) [m.Qty] rfl rfl).at (by simp) fun W3 hc3 => ?_)
      replace h := h.call hc3
      have et : ([m.Qty].all takenI) = takenI m.Qty := by simp
      rw [et]
      cases hq : takenI m.Qty with
      | false =>
        simp only [Bool.not_false, onB_true]
        refine hbad _ _ h.out0 ?_
        unfold lput
        rcases h34 with h3 | h3
        · rw [if_pos h3, hq]; rfl
        · rw [if_neg (by omega), if_pos h3, hq]; rfl
      | true =>
        simp only [Bool.not_true, onB_false]
        refine h.ldi 1 rfl rfl ?_
        have hc0 := h.out0.mono (S' := [bn, be, ba]) (by simp)
        by_cases h3 : m.Kind = 3
        · have e : (m.Kind == 3) = true := by simpa using h3
          rw [e, onB_true]
          refine h.ldL0 1 rfl m rfl (by decide) ?_
          have e2 : lput m g = ltrade m g := by unfold lput; rw [if_pos h3, hq]; rfl
          rw [e2] at hk
          exact c40 _ m (P40 (hL.lc h p1 p2 p3 p4) fun W4 g1 g2 => hk W4 (hc0.trans g1) g2)
        · have h4 : m.Kind = 4 := h34.resolve_left h3
          have e : (m.Kind == 3) = false := by simpa using h3
          rw [e, onB_false]
          refine h.ldL0 1 rfl m rfl (by decide) ?_
          have e2 : lput m g = ldone m g := by unfold lput; rw [if_neg h3, if_pos h4, hq]; rfl
          rw [e2] at hk
          exact c41 _ m (P41 (hL.lc h p1 p2 p3 p4) fun W4 g1 g2 => hk W4 (hc0.trans g1) g2)
    by_cases h3 : m.Kind = 3
    · have e : (m.Kind == 3) = true := by simpa using h3
      rw [e, onB_true]; exact go
    · have h4 : m.Kind = 4 := h34.resolve_left h3
      have e : (m.Kind == 3) = false := by simpa using h3
      have e' : (m.Kind == 4) = true := by simpa using h4
      rw [e, onB_false, e']; exact go
  · have h3 : ¬ m.Kind = 3 := fun h => h34 (.inl h)
    have h4 : ¬ m.Kind = 4 := fun h => h34 (.inr h)
    have e : (m.Kind == 3) = false := by simpa using h3
    have e' : (m.Kind == 4) = false := by simpa using h4
    rw [e, onB_false, e']
    refine hX5 _ _ ?_
    simp only [onB_false]
    by_cases h1 : m.Kind = 1
    · have e1 : (m.Kind == 1) = true := by simpa using h1
      rw [e1, onB_true]
      refine h.ldi 0 rfl rfl ?_
      refine h.ldi 0 rfl rfl ?_
      refine h.new fun b2 W2 h _ _ => ?_
      refine c39 ⟨some ⟨b2, 0, none⟩, 2, 2⟩ (P39 (l := ([m.Qty, m.With] : List Int)) (h.sl 0 rfl (L := lInt .i64) [m.Qty, m.With] rfl rfl).at (by simp) fun W3 hc3 => ?_)
      replace h := h.call hc3
      have et : ([m.Qty, m.With].all takenI) = (takenI m.Qty && takenI m.With) := by simp
      rw [et]
      cases hq : (takenI m.Qty && takenI m.With) with
      | false =>
        simp only [Bool.not_false, onB_true]
        refine hbad _ _ h.out0 ?_
        unfold lput
        rw [if_neg h3, if_neg h4, if_pos h1, hq]; rfl
      | true =>
        simp only [Bool.not_true, onB_false]
        refine h.ldL0 1 rfl m rfl (by decide) ?_
        have e2 : lput m g = lack m g := by unfold lput; rw [if_neg h3, if_neg h4, if_pos h1, hq]; rfl
        rw [e2] at hk
        exact c42 _ m (P42 (hL.lc h p1 p2 p3 p4) fun W4 g1 g2 => hk W4 ((h.out0.mono (by simp)).trans g1) g2)
    · have e1 : (m.Kind == 1) = false := by simpa using h1
      rw [e1, onB_false]
      exact hbad _ _ h.out0 (by unfold lput; rw [if_neg h3, if_neg h4, if_neg h1])
theorem P24n {K : Int → World → Prop} {m : ApiMsg} (hk : ∀ w', Ch [] w w' → K 1 w') : F24 K none m w := by
  have h := Lc.start w
  unfold F24
  refine h.new fun b1 W1 h _ _ => ?_
  simp only [Option.isNone_none, onB_true]
  exact hk _ h.out0
end Go.Dk
